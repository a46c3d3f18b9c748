/- The flow table: Get of a flow that is there, Drop, New. The flow table, as the balance sees it: which blocks are its own, which entries it has. The pool in memory, and its small methods. The pool: Add, get, Get, Up, Quorum. The pool: sums of weights. The pool: Quorum, Quorate. -/
import Derived.Deep.RegionWith
import Derived.Test.YthahlimmmnmniaaGreatDoorRows
import Derived.Deep.QuietTactic
import Derived.BigQuiet
import Derived.Handy
import Derived.Laws.Cover3
import Derived.Test.YthahlimmmnmniaaGreatDoorR02
import Derived.Test.YthahlimmmnmniaaGreatDoorR03
import Derived.Test.YthahlimmmnmniaaGreatDoorR08
namespace Go.Proofs.YthahlimmmnmniaaGreatDoor
open Go.RowKit Go.Fw

def TabPost (w : World) (t mb r : Nat) (L L' : List (Nat × Ent)) (m' : List (Flow × Nat)) (T' : FTab) (v : Value) (en : Ending) (w' : World) : Prop :=
  en = .returned v ∧ TabAt w' t mb r L' m' T' ∧ (∀ x ∈ L'.map Prod.fst, x ∈ L.map Prod.fst ∨ w.heap.size ≤ x) ∧ Fr (t :: mb :: r :: L.map Prod.fst) w w'

set_option maxHeartbeats 800000 in
theorem get_hit {w : World} {t mb r p : Nat} {e : Ent} {xs ys : List (Nat × Ent)} {m : List (Flow × Nat)} {T : FTab} (h : TabAt w t mb r (xs ++ (p, e) :: ys) m T) (now : Int) :
    Calls Tryz.prog 54 #[.pointer (some ⟨t, 0, none⟩), .agg #[.int .i64 e.flow.proto, .int .u32 e.flow.src, .int .u32 e.flow.dst, .int .i64 e.flow.sport, .int .i64 e.flow.dport], .int .i64 now] w
      (TabPost w t mb r (xs ++ (p, e) :: ys) (xs ++ ys ++ [(p, ⟨e.flow, e.backend, max T.now now⟩)]) m ⟨T.room, T.idle, max T.now now, (xs ++ ys).map Prod.snd ++ [⟨e.flow, e.backend, max T.now now⟩]⟩ (.tuple #[.int .i64 e.backend, .bool true])) := by
  obtain ⟨c1, c2, ht⟩ := h.tab
  have hm := h.map
  have lk : ∀ W : World, HasMap W mb Flow.val ptrVal m → _ := fun W hW => look_flow e.flow W hW
  simp only [h.get (by simp : (p, e) ∈ xs ++ (p, e) :: ys), Option.map_some, Option.getD_some, ptrVal] at lk
  obtain ⟨_, _, t2, t3, t4, _, _⟩ := tab_cells ht
  have f2 := free_at ht 2
  obtain ⟨htl0, htl1, htl2, htl3, _, _⟩ := lts (lt_of ht)
  clear ht
  go_enter Tryz.func54, Tryz.ntmps54
  go_wp2_with (first
    | (go_at_call 42; refine (made_walk t r _ ?_).mono ?_; (go_simp); rintro en w1 ⟨rfl, rfl⟩)
    | (go_at_call 69; refine (time_walk t T.now now _ ?_ ?_).mono ?_; (go_simp); (go_simp); rintro en w1 ⟨rfl, rfl⟩))
  go_quiet (fail)
  go_wp2_with fail
  have h0 := fun A => (((h.time (max T.now now)).alloc A).drewN nq)
  refine (out_tab (h0 _)).mono ?_
  rintro en w1 ⟨rfl, hring, hp1, hfr, hsz⟩
  have hT := h.time (max T.now now)
  have hF := (((Fr.refl (r :: (xs ++ (p, e) :: ys).map Prod.fst) (w.setCell ⟨t, 2, none⟩ (.int .i64 (max T.now now)))).alloc _).drewN nq).trans hfr (fun x hx => .inl hx)
  obtain ⟨c1, c2, htT⟩ := hT.tab
  obtain ⟨nx, pv, hrT⟩ := hT.ring
  have hlT := hrT.link (p, e) (by simp)
  have hl1 := hp1.trans (((Fr.refl [] (w.setCell ⟨t, 2, none⟩ (.int .i64 (max T.now now)))).alloc _).drewN nq |>.keep hlT (by simp))
  have hnd := h.nodup
  simp only [List.nodup_cons] at hnd
  obtain ⟨n1, n2, n3, n4⟩ := hnd
  have htr : t ∉ r :: (xs ++ (p, e) :: ys).map Prod.fst := fun hc => n1 (List.mem_cons_of_mem _ hc)
  have ht1 := hF.keep htT htr
  have hm1 := hT.map.keep hF n2
  obtain ⟨nx1, pv1, hring1⟩ := hring
  have hsub : ∀ q, q ∈ r :: (xs ++ ys).map Prod.fst → q ∈ r :: (xs ++ (p, e) :: ys).map Prod.fst := by
    intro q hq
    simp only [List.map_append, List.map_cons, List.mem_cons, List.mem_append] at hq ⊢
    rcases hq with h1 | h1 | h1
    · exact .inl h1
    · exact .inr (.inl h1)
    · exact .inr (.inr (.inr h1))
  have hpn : p ∉ r :: (xs ++ ys).map Prod.fst := by
    have h2 : (xs.map Prod.fst ++ p :: ys.map Prod.fst).Nodup := by simpa using n4
    have h3 := List.nodup_append.1 h2
    intro hc
    simp only [List.map_append, List.mem_cons, List.mem_append] at hc
    rcases hc with h1 | h1 | h1
    · exact n3 (by simp [← h1])
    · exact h3.2.2 p h1 p (by simp) rfl
    · exact (List.nodup_cons.1 h3.2.1).1 h1
  have hpm : p ∈ r :: (xs ++ (p, e) :: ys).map Prod.fst := by simp
  have htp : t ≠ p := fun e1 => htr (e1 ▸ hpm)
  have hmp : mb ≠ p := fun e1 => n2 (e1 ▸ hpm)
  obtain ⟨_, _, _, _, _, l5, _, _, _⟩ := link_cells hl1
  obtain ⟨_, _, t2', _, t4', _, _⟩ := tab_cells ht1
  have HH := Lib.hid (And.intro hp1 (And.intro hl1 (And.intro ht1 (And.intro htT hlT))))
  clear hp1 hl1 ht1 htT hlT lk t2 t3 t4 f2 hsz
  go_wp2_with fail
  obtain ⟨hp1, hl1, ht1, htT, hlT⟩ := HH.out
  refine (last_ring (t := t) (r := r) (n := max T.now now) (L := xs ++ ys) (e := e) hring1 hl1 t2' t4' hpn ?_).mono ?_
  · intro hc
    rcases List.mem_cons.1 hc with h1 | h1
    · exact htp h1
    · exact htr (hsub _ h1)
  rintro en w2 ⟨rfl, hring2, hfr2, hsz2⟩
  have htpr : t ∉ p :: r :: (xs ++ ys).map Prod.fst := fun hc => by
    rcases List.mem_cons.1 hc with h1 | h1
    · exact htp h1
    · exact htr (hsub _ h1)
  have hmpr : mb ∉ p :: r :: (xs ++ ys).map Prod.fst := fun hc => by
    rcases List.mem_cons.1 hc with h1 | h1
    · exact hmp h1
    · exact n2 (hsub _ h1)
  have ht2 := hfr2.keep ht1 htpr
  have hm2 := hm1.keep hfr2 hmpr
  have hTab : TabAt w2 t mb r (xs ++ ys ++ [(p, ⟨e.flow, e.backend, max T.now now⟩)]) m ⟨T.room, T.idle, max T.now now, (xs ++ ys).map Prod.snd ++ [⟨e.flow, e.backend, max T.now now⟩]⟩ := by
    refine ⟨⟨c1, c2, ht2⟩, hm2, ?_, ?_, hring2, ?_, ?_⟩
    · intro f q
      rw [h.maps]
      constructor
      · rintro ⟨e', h1, h2⟩
        rcases List.mem_append.1 h1 with h3 | h3
        · exact ⟨e', by simp [h3], h2⟩
        · rcases List.mem_cons.1 h3 with h4 | h4
          · obtain ⟨rfl, rfl⟩ := Prod.mk.inj h4
            exact ⟨_, List.mem_append_right _ (List.mem_singleton.2 rfl), h2⟩
          · exact ⟨e', by simp [h4], h2⟩
      · rintro ⟨e', h1, h2⟩
        rcases List.mem_append.1 h1 with h3 | h3
        · rcases List.mem_append.1 h3 with h4 | h4
          · exact ⟨e', by simp [h4], h2⟩
          · exact ⟨e', by simp [h4], h2⟩
        · obtain ⟨rfl, rfl⟩ := Prod.mk.inj (List.mem_singleton.1 h3)
          exact ⟨e, by simp, h2⟩
    · have := h.len
      simp at this ⊢
      omega
    · have hperm : (t :: mb :: r :: (xs ++ ys ++ [(p, (⟨e.flow, e.backend, max T.now now⟩ : Ent))]).map Prod.fst).Perm (t :: mb :: r :: (xs ++ (p, e) :: ys).map Prod.fst) := by
        refine ((List.Perm.cons _ (List.Perm.cons _ (List.Perm.cons _ ?_))))
        simp only [List.map_append, List.map_cons, List.map_nil, List.append_assoc]
        exact List.Perm.append_left _ (List.perm_append_comm)
      exact hperm.nodup_iff.2 h.nodup
    · simp
  obtain ⟨nx2, pv2, hr2⟩ := hring2
  have hl2 := hr2.link (p, ⟨e.flow, e.backend, max T.now now⟩) (by simp)
  obtain ⟨_, _, _, _, _, l5', _, _, _⟩ := link_cells hl2
  have HH2 := Lib.hid (And.intro hTab (And.intro hF hfr2))
  clear hp1 hl1 ht1 htT hlT ht2 hm2 hTab hr2 hfr2 hring1 hl2 hsz2
  go_wp2
  go_returns
  obtain ⟨hTab, hF, hfr2⟩ := HH2.out
  refine ⟨rfl, hTab, ?_, ?_⟩
  · intro x hx
    refine .inl ?_
    simp only [List.map_append, List.map_cons, List.map_nil, List.mem_cons, List.mem_append, List.append_assoc] at hx ⊢
    rcases hx with h1 | h1 | h1 | h1
    · exact .inl h1
    · exact .inr (.inr h1)
    · exact .inr (.inl h1)
    · cases h1
  · refine (((Fr.refl _ w).set _ _ (.inl (by simp))).trans hF (fun x hx => .inl ?_)).trans hfr2 (fun x hx => .inl ?_)
    · exact List.mem_cons_of_mem _ (List.mem_cons_of_mem _ hx)
    · refine List.mem_cons_of_mem _ (List.mem_cons_of_mem _ ?_)
      rcases List.mem_cons.1 hx with h1 | h1
      · exact h1 ▸ hpm
      · exact hsub _ h1

set_option maxHeartbeats 400000 in
theorem drop_hit {w : World} {t mb r p : Nat} {e : Ent} {xs ys : List (Nat × Ent)} {m : List (Flow × Nat)} {T : FTab} (h : TabAt w t mb r (xs ++ (p, e) :: ys) m T) :
    Calls Tryz.prog 55 #[.pointer (some ⟨t, 0, none⟩), .agg #[.int .i64 e.flow.proto, .int .u32 e.flow.src, .int .u32 e.flow.dst, .int .i64 e.flow.sport, .int .i64 e.flow.dport]] w
      (TabPost w t mb r (xs ++ (p, e) :: ys) (xs ++ ys) (adel m e.flow) { T with l := (xs ++ ys).map Prod.snd } (.bool true)) := by
  obtain ⟨c1, c2, ht⟩ := h.tab
  have hm := h.map
  have lk : ∀ W : World, HasMap W mb Flow.val ptrVal m → _ := fun W hW => look_flow e.flow W hW
  simp only [h.get (by simp : (p, e) ∈ xs ++ (p, e) :: ys), Option.map_some, Option.getD_some, ptrVal] at lk
  obtain ⟨_, _, t2, t3, t4, _, _⟩ := tab_cells ht
  obtain ⟨htl0, htl1, htl2, htl3, _, _⟩ := lts (lt_of ht)
  clear ht
  go_enter Tryz.func55, Tryz.ntmps55
  go_wp2
  go_quiet ((go_at_call 42; refine Calls.quiet_of_same (made_walk t r _ ?_); go_simp))
  go_wp2
  have h0 := fun A n => gone_tab ((h.alloc A).drewN n)
  go_region_with (go_at_call 87; refine (h0 _ _).mono ?_; rintro en w1 ⟨rfl, hTab, hp1, hfr, hsz⟩)
  all_goals go_wp2
  all_goals go_returns
  all_goals refine ⟨rfl, hTab, fun x hx => .inl ?_, ?_⟩
  any_goals
    simp only [List.map_append, List.map_cons, List.mem_cons, List.mem_append] at hx ⊢
    rcases hx with h1 | h1
    · exact .inl h1
    · exact .inr (.inr h1)
  all_goals exact (((Fr.refl (t :: mb :: r :: (xs ++ (p, e) :: ys).map Prod.fst) w).alloc _).drewN _).trans hfr (fun x hx => .inl hx)

set_option maxHeartbeats 400000 in
theorem drop_miss {w : World} {t mb r : Nat} {L : List (Nat × Ent)} {m : List (Flow × Nat)} {T : FTab} (h : TabAt w t mb r L m T) {f : Flow} (hf : ∀ e ∈ T.l, e.flow ≠ f) :
    Calls Tryz.prog 55 #[.pointer (some ⟨t, 0, none⟩), .agg #[.int .i64 f.proto, .int .u32 f.src, .int .u32 f.dst, .int .i64 f.sport, .int .i64 f.dport]] w fun en w' =>
      en = .returned (.bool false) ∧ Fr [] w w' := by
  obtain ⟨c1, c2, ht⟩ := h.tab
  have hm := h.map
  have lk : ∀ W : World, HasMap W mb Flow.val ptrVal m → _ := fun W hW => look_flow f W hW
  simp only [h.miss hf, Option.map_none, Option.getD_none] at lk
  obtain ⟨_, _, _, t3, t4, _, _⟩ := tab_cells ht
  obtain ⟨htl0, htl1, htl2, htl3, _, _⟩ := lts (lt_of ht)
  clear ht hf h
  go_enter Tryz.func55, Tryz.ntmps55
  go_wp2
  go_quiet ((go_at_call 42; refine Calls.quiet_of_same (made_walk t r _ ?_); go_simp))
  go_wp2
  all_goals go_returns
  all_goals refine ⟨rfl, ?_⟩
  all_goals (repeat (first | (with_reducible exact Fr.refl _ _) | (with_reducible assumption) | (with_reducible refine Fr.drew ?_) | (with_reducible refine Fr.drewN ?_ _) | (with_reducible refine Fr.alloc ?_ _) | (with_reducible refine Fr.mput ?_ _ _ _ (.inl (by simp))) | (with_reducible refine Fr.mdel ?_ _ _ (.inl (by simp))) | (with_reducible refine Fr.set ?_ _ _ (.inr (by first | omega | (dsimp only; omega)))) | (with_reducible refine Fr.set ?_ _ _ (.inl (by simp)))))

set_option maxHeartbeats 400000 in
/-- A new table, of a room and an idle time that may be. -/
theorem new_tab (room idle : Int) (w : World) (h1 : 1 ≤ room) (h2 : room ≤ 1024) (h3 : 1 ≤ idle) (h4 : idle ≤ 1000000) :
    Calls Tryz.prog 22 #[.int .i64 room, .int .i64 idle] w fun en w' => ∃ t mb r, en = .returned (.pointer (some ⟨t, 0, none⟩)) ∧ TabAt w' t mb r [] [] ⟨room, idle, 0, []⟩ ∧ w.heap.size ≤ t ∧ w.heap.size ≤ mb ∧ w.heap.size ≤ r ∧ Fr [] w w' := by
  have hmm := @run_makeMap Tryz.prog
  have d1 : decide (room < 1) = false := decide_eq_false (by omega)
  have d2 : decide (1024 < room) = false := decide_eq_false (by omega)
  have d3 : decide (idle < 1) = false := decide_eq_false (by omega)
  have d4 : decide (1000000 < idle) = false := decide_eq_false (by omega)
  go_enter Tryz.func22, Tryz.ntmps22
  go_wp2
  all_goals go_returns
  refine ⟨w.heap.size + 1 + 1, w.heap.size + 1, w.heap.size, rfl, ?_, ?_, ?_, ?_, ?_⟩
  · refine ⟨⟨0, 0, ?_⟩, ?_, by simp, rfl, ⟨fun _ => w.heap.size, fun _ => w.heap.size, ?_, by simp, ?_⟩, by (simp; omega), rfl⟩
    · simp only [heap_alloc_if, World.size_alloc]; simp
    · rw [hasMap_alloc_cells]
      have := hasMap_new (w.alloc (.cells #[.int .i64 0, .int .u32 0, .int .u32 0, .int .i64 0, .int .i64 0, .int .i64 0, .int .i64 0, .pointer (some ⟨w.heap.size, 0, none⟩), .pointer (some ⟨w.heap.size, 0, none⟩)] 101)) Flow.val ptrVal
      simpa using this
    · exact ring_self _ _ _ rfl rfl
    · refine ⟨⟨⟨0, 0, 0, 0, 0⟩, 0, 0⟩, ?_⟩
      simp only [heap_alloc_if, World.size_alloc]
      rw [if_neg (by omega), if_neg (by omega), if_pos trivial]
      rfl
  · omega
  · omega
  · omega
  · (repeat (first | (with_reducible exact Fr.refl _ _) | (with_reducible assumption) | (with_reducible refine Fr.drew ?_) | (with_reducible refine Fr.drewN ?_ _) | (with_reducible refine Fr.alloc ?_ _) | (with_reducible refine Fr.mput ?_ _ _ _ (.inl (by simp))) | (with_reducible refine Fr.mdel ?_ _ _ (.inl (by simp))) | (with_reducible refine Fr.set ?_ _ _ (.inr (by first | omega | (dsimp only; omega)))) | (with_reducible refine Fr.set ?_ _ _ (.inl (by simp)))))
end Go.Proofs.YthahlimmmnmniaaGreatDoor

namespace Go.Proofs.YthahlimmmnmniaaGreatDoor
open Go.RowKit Go.Fw

def FlowsAt (w : World) (t : Nat) (O : List Nat) (T : FTab) : Prop := ∃ mb r L m, TabAt w t mb r L m T ∧ 1 ≤ T.room ∧ O = t :: mb :: r :: L.map Prod.fst

theorem FlowsAt.fr {w w' : World} {t : Nat} {O S : List Nat} {T : FTab} (h : FlowsAt w t O T) (hf : Fr S w w') (hS : ∀ q ∈ O, q ∉ S) : FlowsAt w' t O T := by
  obtain ⟨mb, r, L, m, h1, h2, rfl⟩ := h
  exact ⟨mb, r, L, m, h1.fr hf hS, h2, rfl⟩
theorem FlowsAt.lt {w : World} {t : Nat} {O : List Nat} {T : FTab} (h : FlowsAt w t O T) : ∀ q ∈ O, q < w.heap.size := by
  obtain ⟨mb, r, L, m, h1, h2, rfl⟩ := h
  exact h1.lt
theorem FlowsAt.self {w : World} {t : Nat} {O : List Nat} {T : FTab} (h : FlowsAt w t O T) : t ∈ O := by
  obtain ⟨mb, r, L, m, h1, h2, rfl⟩ := h
  simp

/-- The flow's entry has this backend. -/
def Goes (T : FTab) (f : Flow) (b : Int) : Prop := ∃ e ∈ T.l, e.flow = f ∧ e.backend = b

theorem FlowsAt.one {w : World} {t : Nat} {O : List Nat} {T : FTab} (h : FlowsAt w t O T) {f : Flow} {a b : Int} (ha : Goes T f a) (hb : Goes T f b) : a = b := by
  obtain ⟨mb, r, L, m, h1, h2, rfl⟩ := h
  obtain ⟨e, he, hf, rfl⟩ := ha
  obtain ⟨e', he', hf', rfl⟩ := hb
  rw [h1.list] at he he'
  obtain ⟨⟨p, _⟩, hp, rfl⟩ := List.mem_map.1 he
  obtain ⟨⟨q, _⟩, hq, rfl⟩ := List.mem_map.1 he'
  exact congrArg Ent.backend (h1.uniq hp hq (hf.trans hf'.symm)).2

def PeekPost (T : FTab) (f : Flow) (w : World) (en : Ending) (w' : World) : Prop :=
  Fr [] w w' ∧ ((∃ b la, Goes T f b ∧ en = .returned (.tuple #[.agg #[.int .i64 f.proto, .int .u32 f.src, .int .u32 f.dst, .int .i64 f.sport, .int .i64 f.dport, .int .i64 b, .int .i64 la], .bool true])) ∨
    ((∀ b, ¬ Goes T f b) ∧ en = .returned (.tuple #[.agg #[.int .i64 0, .int .u32 0, .int .u32 0, .int .i64 0, .int .i64 0, .int .i64 0, .int .i64 0], .bool false])))

theorem peek_f {w : World} {t : Nat} {O : List Nat} {T : FTab} (h : FlowsAt w t O T) (f : Flow) :
    Calls Tryz.prog 9 #[.pointer (some ⟨t, 0, none⟩), .agg #[.int .i64 f.proto, .int .u32 f.src, .int .u32 f.dst, .int .i64 f.sport, .int .i64 f.dport]] w (PeekPost T f w) := by
  obtain ⟨mb, r, L, m, h1, h2, rfl⟩ := h
  by_cases hg : ∃ e ∈ T.l, e.flow = f
  · obtain ⟨e, he, rfl⟩ := hg
    have he' := he
    rw [h1.list] at he'
    obtain ⟨⟨p, _⟩, hp, rfl⟩ := List.mem_map.1 he'
    refine (peek_hit h1 hp).mono ?_
    rintro en w' ⟨rfl, hfr⟩
    exact ⟨hfr, .inl ⟨_, _, ⟨_, he, rfl, rfl⟩, rfl⟩⟩
  · refine (peek_miss h1 (f := f) (fun e he hf => hg ⟨e, he, hf⟩)).mono ?_
    rintro en w' ⟨rfl, hfr⟩
    exact ⟨hfr, .inr ⟨fun b ⟨e, he, hf, _⟩ => hg ⟨e, he, hf⟩, rfl⟩⟩

/-- What a call that may change the table leaves. -/
def FlowsPost (w : World) (t : Nat) (O : List Nat) (R : FTab → Prop) (w' : World) : Prop :=
  ∃ O' T', FlowsAt w' t O' T' ∧ (∀ x ∈ O', x ∈ O ∨ w.heap.size ≤ x) ∧ Fr O w w' ∧ R T'

theorem put_f {w : World} {t : Nat} {O : List Nat} {T : FTab} (h : FlowsAt w t O T) (f : Flow) (b now : Int) :
    Calls Tryz.prog 35 #[.pointer (some ⟨t, 0, none⟩), .agg #[.int .i64 f.proto, .int .u32 f.src, .int .u32 f.dst, .int .i64 f.sport, .int .i64 f.dport], .int .i64 b, .int .i64 now] w
      fun en w' => (∃ v, en = .returned v) ∧ FlowsPost w t O (fun T' => Goes T' f b) w' := by
  obtain ⟨mb, r, L, m, h1, h2, rfl⟩ := h
  have hnew : ∀ (L' : List (Nat × Ent)) (x : Nat), (∀ x ∈ L'.map Prod.fst, x ∈ L.map Prod.fst ∨ w.heap.size ≤ x) → x ∈ t :: mb :: r :: L'.map Prod.fst → x ∈ t :: mb :: r :: L.map Prod.fst ∨ w.heap.size ≤ x := by
    intro L' x hL' hx
    rcases List.mem_cons.1 hx with rfl | hx
    · exact .inl (by simp)
    rcases List.mem_cons.1 hx with rfl | hx
    · exact .inl (by simp)
    rcases List.mem_cons.1 hx with rfl | hx
    · exact .inl (by simp)
    rcases hL' x hx with h | h
    · exact .inl (List.mem_cons_of_mem _ (List.mem_cons_of_mem _ (List.mem_cons_of_mem _ h)))
    · exact .inr h
  by_cases hg : ∃ e ∈ T.l, e.flow = f
  · obtain ⟨e, he, rfl⟩ := hg
    have he' := he
    rw [h1.list] at he'
    obtain ⟨⟨p, _⟩, hp, rfl⟩ := List.mem_map.1 he'
    obtain ⟨xs, ys, rfl⟩ := List.append_of_mem hp
    refine (put_hit h1 b now).mono ?_
    rintro en w' ⟨hv, hT, hL, hfr⟩
    exact ⟨hv, _, _, ⟨mb, r, _, _, hT, h2, rfl⟩, fun x hx => hnew _ x hL hx, hfr, ⟨_, List.mem_append_right _ (List.mem_singleton.2 rfl), rfl, rfl⟩⟩
  · refine (put_miss h1 h2 f (fun e he hf => hg ⟨e, he, hf⟩) b now).mono ?_
    rintro en w' ⟨p, m', hv, hT, hL, hfr⟩
    exact ⟨hv, _, _, ⟨mb, r, _, _, hT, h2, rfl⟩, fun x hx => hnew _ x hL hx, hfr, ⟨_, List.mem_append_right _ (List.mem_singleton.2 rfl), rfl, rfl⟩⟩

theorem get_f {w : World} {t : Nat} {O : List Nat} {T : FTab} (h : FlowsAt w t O T) (f : Flow) (b now : Int) (hb : Goes T f b) :
    Calls Tryz.prog 54 #[.pointer (some ⟨t, 0, none⟩), .agg #[.int .i64 f.proto, .int .u32 f.src, .int .u32 f.dst, .int .i64 f.sport, .int .i64 f.dport], .int .i64 now] w
      fun en w' => en = .returned (.tuple #[.int .i64 b, .bool true]) ∧ FlowsPost w t O (fun T' => Goes T' f b) w' := by
  obtain ⟨mb, r, L, m, h1, h2, rfl⟩ := h
  obtain ⟨e, he, rfl, rfl⟩ := hb
  have he' := he
  rw [h1.list] at he'
  obtain ⟨⟨p, _⟩, hp, rfl⟩ := List.mem_map.1 he'
  obtain ⟨xs, ys, rfl⟩ := List.append_of_mem hp
  refine (get_hit h1 now).mono ?_
  rintro en w' ⟨rfl, hT, hL, hfr⟩
  refine ⟨rfl, _, _, ⟨mb, r, _, _, hT, h2, rfl⟩, fun x hx => ?_, hfr, ⟨_, List.mem_append_right _ (List.mem_singleton.2 rfl), rfl, rfl⟩⟩
  rcases List.mem_cons.1 hx with rfl | hx
  · exact .inl (by simp)
  rcases List.mem_cons.1 hx with rfl | hx
  · exact .inl (by simp)
  rcases List.mem_cons.1 hx with rfl | hx
  · exact .inl (by simp)
  rcases hL x hx with h | h
  · exact .inl (List.mem_cons_of_mem _ (List.mem_cons_of_mem _ (List.mem_cons_of_mem _ h)))
  · exact .inr h

theorem drop_f {w : World} {t : Nat} {O : List Nat} {T : FTab} (h : FlowsAt w t O T) (f : Flow) :
    Calls Tryz.prog 55 #[.pointer (some ⟨t, 0, none⟩), .agg #[.int .i64 f.proto, .int .u32 f.src, .int .u32 f.dst, .int .i64 f.sport, .int .i64 f.dport]] w
      fun en w' => (∃ v, en = .returned v) ∧ FlowsPost w t O (fun _ => True) w' := by
  have h0 := h
  obtain ⟨mb, r, L, m, h1, h2, rfl⟩ := h
  by_cases hg : ∃ e ∈ T.l, e.flow = f
  · obtain ⟨e, he, rfl⟩ := hg
    have he' := he
    rw [h1.list] at he'
    obtain ⟨⟨p, _⟩, hp, rfl⟩ := List.mem_map.1 he'
    obtain ⟨xs, ys, rfl⟩ := List.append_of_mem hp
    refine (drop_hit h1).mono ?_
    rintro en w' ⟨rfl, hT, hL, hfr⟩
    refine ⟨⟨_, rfl⟩, _, _, ⟨mb, r, _, _, hT, h2, rfl⟩, fun x hx => ?_, hfr, trivial⟩
    rcases List.mem_cons.1 hx with rfl | hx
    · exact .inl (by simp)
    rcases List.mem_cons.1 hx with rfl | hx
    · exact .inl (by simp)
    rcases List.mem_cons.1 hx with rfl | hx
    · exact .inl (by simp)
    rcases hL x hx with h | h
    · exact .inl (List.mem_cons_of_mem _ (List.mem_cons_of_mem _ (List.mem_cons_of_mem _ h)))
    · exact .inr h
  · refine (drop_miss h1 (f := f) (fun e he hf => hg ⟨e, he, hf⟩)).mono ?_
    rintro en w' ⟨rfl, hfr⟩
    exact ⟨⟨_, rfl⟩, _, T, h0.fr hfr (by simp), fun x hx => .inl hx, hfr.mono (by simp), trivial⟩
end Go.Proofs.YthahlimmmnmniaaGreatDoor

namespace Go.Proofs.YthahlimmmnmniaaGreatDoor
open Go.RowKit Go.Fw

structure Mem where
  id : Int
  addr : Int
  weight : Int
  up : Bool
  drain : Bool

def Mem.val (m : Mem) : Value := .agg #[.int .i64 m.id, .int .u32 m.addr, .int .i64 m.weight, .bool m.up, .bool m.drain]

structure PoolT where
  percent : Int
  l : List (Int × Mem)

structure PoolAt (w : World) (p mb : Nat) (T : PoolT) : Prop where
  pool : w.heap[p]? = some (.cells #[.int .i64 T.percent, .map (some mb)] 110 (0, 0))
  map : HasMap w mb (Value.int .i64) Mem.val T.l
  ne : p ≠ mb

theorem pool_cells {w : World} {p mb : Nat} {a : Int} (h : w.heap[p]? = some (.cells #[.int .i64 a, .map (some mb)] 110 (0, 0))) :
    w.cell? ⟨p, 0, none⟩ = some (.int .i64 a) ∧ w.cell? ⟨p, 1, none⟩ = some (.map (some mb)) := ⟨cell_at h 0 rfl, cell_at h 1 rfl⟩

theorem PoolAt.keep {w w' : World} {p mb : Nat} {T : PoolT} (h : PoolAt w p mb T) (h1 : w'.heap[p]? = w.heap[p]?) (h2 : w'.heap[mb]? = w.heap[mb]?) : PoolAt w' p mb T := ⟨h1.trans h.pool, h.map.of_block h2, h.ne⟩
theorem PoolAt.fr {w w' : World} {p mb : Nat} {T : PoolT} {S : List Nat} (h : PoolAt w p mb T) (hf : Fr S w w') (h1 : p ∉ S) (h2 : mb ∉ S) : PoolAt w' p mb T := h.keep (hf.block _ (lt_of h.pool) h1) (hf.block _ h.map.lt h2)

theorem zero_member (w : World) : (zeroValue 103).run Tryz.prog w = .ok (.agg #[.int .i64 0, .int .u32 0, .int .i64 0, .bool false, .bool false]) w := by kernel_rfl

theorem mem_law : KeyLaw Tryz.prog 3 (Value.int .i64) := int_law Tryz.underlying3

theorem look_mem {l : List (Int × Mem)} {mb : Nat} (k : Int) (ok : Bool) (W : World) (h : HasMap W mb (Value.int .i64) Mem.val l) :
    (Instr.lookup 108 (.map (some mb)) (.int .i64 k) ok).run Tryz.prog W = .ok (if ok then .tuple #[((aget l k).map Mem.val).getD (.agg #[.int .i64 0, .int .u32 0, .int .i64 0, .bool false, .bool false]), .bool (aget l k).isSome] else ((aget l k).map Mem.val).getD (.agg #[.int .i64 0, .int .u32 0, .int .i64 0, .bool false, .bool false])) W :=
  HasMap.lookup mem_law Tryz.underlying108 zero_member k h ok

theorem put_mem {l : List (Int × Mem)} {mb : Nat} (k : Int) (v : Value) (W : World) (h : HasMap W mb (Value.int .i64) Mem.val l) :
    (Instr.mapUpdate 108 (.map (some mb)) (.int .i64 k) v).run Tryz.prog W = .ok () (W.mput mb (.int .i64 k) v) := HasMap.update mem_law Tryz.underlying108 k v h

theorem len_mem {l : List (Int × Mem)} {mb : Nat} (rt : TypeId) (W : World) (h : HasMap W mb (Value.int .i64) Mem.val l) :
    (Builtin.len_ #[108] rt #[.map (some mb)]).run Tryz.prog W = .ok (.int .i64 l.length) W := HasMap.len Tryz.underlying108 h rfl

set_option maxHeartbeats 400000 in
theorem pmade_walk (p mb : Nat) (w : World) (h1 : w.cell? ⟨p,1,none⟩ = some (.map (some mb))) :
    Calls Tryz.prog 44 #[.pointer (some ⟨p,0,none⟩)] w fun e w' => e = .returned (.bool true) ∧ w = w' := by
  have hn := fun (W : World) => run_neq_map_nil W 108 3 103 (some mb) Tryz.underlying108
  simp only [Option.isNone_some, Bool.not_false] at hn
  go_enter Tryz.func44, Tryz.ntmps44
  go_wp2
  go_ret
  exact ⟨rfl, rfl⟩

def NewPoolPost (w : World) (n : Int) (en : Ending) (w' : World) : Prop :=
  ∃ p mb, en = .returned (.pointer (some ⟨p, 0, none⟩)) ∧ PoolAt w' p mb ⟨n, []⟩ ∧ w.heap.size ≤ p ∧ w.heap.size ≤ mb ∧ Fr [] w w'

set_option maxHeartbeats 400000 in
theorem new_pool (n : Int) (w : World) (h1 : 1 ≤ n) (h2 : n ≤ 100) :
    Calls Tryz.prog 23 #[.int .i64 n] w (NewPoolPost w n) := by
  have hmm := @run_makeMap Tryz.prog
  go_enter Tryz.func23, Tryz.ntmps23
  go_wp2
  all_goals go_returns
  refine ⟨w.heap.size + 1, w.heap.size, rfl, ⟨?_, ?_, by omega⟩, by omega, by omega, ?_⟩
  · simp only [heap_alloc_if, World.size_alloc]; simp
  · rw [hasMap_alloc_cells]
    exact hasMap_new w _ _
  · (repeat (first | (with_reducible exact Fr.refl _ _) | (with_reducible assumption) | (with_reducible refine Fr.drew ?_) | (with_reducible refine Fr.drewN ?_ _) | (with_reducible refine Fr.alloc ?_ _) | (with_reducible refine Fr.mput ?_ _ _ _ (.inl (by simp))) | (with_reducible refine Fr.mdel ?_ _ _ (.inl (by simp))) | (with_reducible refine Fr.set ?_ _ _ (.inr (by first | omega | (dsimp only; omega)))) | (with_reducible refine Fr.set ?_ _ _ (.inl (by simp)))))


set_option maxHeartbeats 400000 in
theorem mark_hit {w : World} {p mb : Nat} {T : PoolT} (h : PoolAt w p mb T) (id : Int) (m : Mem) (hg : aget T.l id = some m) (up : Bool) :
    Calls Tryz.prog 20 #[.pointer (some ⟨p, 0, none⟩), .int .i64 id, .bool up] w fun en w' => en = .returned (.int .i64 0) ∧ PoolAt w' p mb { T with l := aput T.l id { m with up := up } } ∧ Fr [mb] w w' := by
  have hm := h.map
  have lk := fun (W : World) (hW : HasMap W mb (Value.int .i64) Mem.val T.l) => look_mem id true W hW
  have ups := fun (v : Value) (W : World) (hW : HasMap W mb (Value.int .i64) Mem.val T.l) => put_mem id v W hW
  simp only [hg, Option.map_some, Option.getD_some, Option.isSome_some, if_true, Mem.val] at lk
  obtain ⟨c0, c1⟩ := pool_cells h.pool
  obtain ⟨pl0, pl1, pl2, pl3, _, _⟩ := lts (lt_of h.pool)
  go_enter Tryz.func20, Tryz.ntmps20
  go_wp2_with (first
    | (go_at_call 44; refine (pmade_walk p mb _ ?_).mono ?_; (go_simp); rintro en w1 ⟨rfl, rfl⟩)
    | go_in)
  go_region
  all_goals go_wp2
  all_goals go_returns
  all_goals refine ⟨rfl, ⟨?_, ?_, h.ne⟩, ?_⟩
  · rw [heap_mput_ne _ _ _ _ h.ne, heap_drew, heap_old _ _ (by simp; omega), heap_old _ _ pl0]
    exact h.pool
  · refine HasMap.put (ek := Value.int .i64) (ev := Mem.val) (fun a b h => by simpa using h) id { m with up := up } ?_
    simp
    exact hm
  · (repeat (first | (with_reducible exact Fr.refl _ _) | (with_reducible assumption) | (with_reducible refine Fr.drew ?_) | (with_reducible refine Fr.drewN ?_ _) | (with_reducible refine Fr.alloc ?_ _) | (with_reducible refine Fr.mput ?_ _ _ _ (.inl (by simp))) | (with_reducible refine Fr.mdel ?_ _ _ (.inl (by simp))) | (with_reducible refine Fr.set ?_ _ _ (.inr (by first | omega | (dsimp only; omega)))) | (with_reducible refine Fr.set ?_ _ _ (.inl (by simp)))))

set_option maxHeartbeats 400000 in
theorem mark_miss {w : World} {p mb : Nat} {T : PoolT} (h : PoolAt w p mb T) (id : Int) (hg : aget T.l id = none) (up : Bool) :
    Calls Tryz.prog 20 #[.pointer (some ⟨p, 0, none⟩), .int .i64 id, .bool up] w fun en w' => en = .returned (.int .i64 7) ∧ Fr [] w w' := by
  have hm := h.map
  have lk := fun (W : World) (hW : HasMap W mb (Value.int .i64) Mem.val T.l) => look_mem id true W hW
  simp only [hg, Option.map_none, Option.getD_none, Option.isSome_none, if_true] at lk
  obtain ⟨c0, c1⟩ := pool_cells h.pool
  obtain ⟨pl0, pl1, pl2, pl3, _, _⟩ := lts (lt_of h.pool)
  go_enter Tryz.func20, Tryz.ntmps20
  go_wp2_with (first
    | (go_at_call 44; refine (pmade_walk p mb _ ?_).mono ?_; (go_simp); rintro en w1 ⟨rfl, rfl⟩)
    | go_in)
  all_goals go_returns
  all_goals refine ⟨rfl, ?_⟩
  all_goals (repeat (first | (with_reducible exact Fr.refl _ _) | (with_reducible assumption) | (with_reducible refine Fr.drew ?_) | (with_reducible refine Fr.drewN ?_ _) | (with_reducible refine Fr.alloc ?_ _) | (with_reducible refine Fr.mput ?_ _ _ _ (.inl (by simp))) | (with_reducible refine Fr.mdel ?_ _ _ (.inl (by simp))) | (with_reducible refine Fr.set ?_ _ _ (.inr (by first | omega | (dsimp only; omega)))) | (with_reducible refine Fr.set ?_ _ _ (.inl (by simp)))))

set_option maxHeartbeats 400000 in
theorem drain_hit {w : World} {p mb : Nat} {T : PoolT} (h : PoolAt w p mb T) (id : Int) (m : Mem) (hg : aget T.l id = some m) (dr : Bool) :
    Calls Tryz.prog 18 #[.pointer (some ⟨p, 0, none⟩), .int .i64 id, .bool dr] w fun en w' => en = .returned (.int .i64 0) ∧ PoolAt w' p mb { T with l := aput T.l id { m with drain := dr } } ∧ Fr [mb] w w' := by
  have hm := h.map
  have lk := fun (W : World) (hW : HasMap W mb (Value.int .i64) Mem.val T.l) => look_mem id true W hW
  have ups := fun (v : Value) (W : World) (hW : HasMap W mb (Value.int .i64) Mem.val T.l) => put_mem id v W hW
  simp only [hg, Option.map_some, Option.getD_some, Option.isSome_some, if_true, Mem.val] at lk
  obtain ⟨c0, c1⟩ := pool_cells h.pool
  obtain ⟨pl0, pl1, pl2, pl3, _, _⟩ := lts (lt_of h.pool)
  go_enter Tryz.func18, Tryz.ntmps18
  go_wp2_with (first
    | (go_at_call 44; refine (pmade_walk p mb _ ?_).mono ?_; (go_simp); rintro en w1 ⟨rfl, rfl⟩)
    | go_in)
  go_region
  all_goals go_wp2
  all_goals go_returns
  all_goals refine ⟨rfl, ⟨?_, ?_, h.ne⟩, ?_⟩
  · rw [heap_mput_ne _ _ _ _ h.ne, heap_drew, heap_old _ _ (by simp; omega), heap_old _ _ pl0]
    exact h.pool
  · refine HasMap.put (ek := Value.int .i64) (ev := Mem.val) (fun a b h => by simpa using h) id { m with drain := dr } ?_
    simp
    exact hm
  · (repeat (first | (with_reducible exact Fr.refl _ _) | (with_reducible assumption) | (with_reducible refine Fr.drew ?_) | (with_reducible refine Fr.drewN ?_ _) | (with_reducible refine Fr.alloc ?_ _) | (with_reducible refine Fr.mput ?_ _ _ _ (.inl (by simp))) | (with_reducible refine Fr.mdel ?_ _ _ (.inl (by simp))) | (with_reducible refine Fr.set ?_ _ _ (.inr (by first | omega | (dsimp only; omega)))) | (with_reducible refine Fr.set ?_ _ _ (.inl (by simp)))))

set_option maxHeartbeats 400000 in
theorem drain_miss {w : World} {p mb : Nat} {T : PoolT} (h : PoolAt w p mb T) (id : Int) (hg : aget T.l id = none) (dr : Bool) :
    Calls Tryz.prog 18 #[.pointer (some ⟨p, 0, none⟩), .int .i64 id, .bool dr] w fun en w' => en = .returned (.int .i64 7) ∧ Fr [] w w' := by
  have hm := h.map
  have lk := fun (W : World) (hW : HasMap W mb (Value.int .i64) Mem.val T.l) => look_mem id true W hW
  simp only [hg, Option.map_none, Option.getD_none, Option.isSome_none, if_true] at lk
  obtain ⟨c0, c1⟩ := pool_cells h.pool
  obtain ⟨pl0, pl1, pl2, pl3, _, _⟩ := lts (lt_of h.pool)
  go_enter Tryz.func18, Tryz.ntmps18
  go_wp2_with (first
    | (go_at_call 44; refine (pmade_walk p mb _ ?_).mono ?_; (go_simp); rintro en w1 ⟨rfl, rfl⟩)
    | go_in)
  all_goals go_returns
  all_goals refine ⟨rfl, ?_⟩
  all_goals (repeat (first | (with_reducible exact Fr.refl _ _) | (with_reducible assumption) | (with_reducible refine Fr.drew ?_) | (with_reducible refine Fr.drewN ?_ _) | (with_reducible refine Fr.alloc ?_ _) | (with_reducible refine Fr.mput ?_ _ _ _ (.inl (by simp))) | (with_reducible refine Fr.mdel ?_ _ _ (.inl (by simp))) | (with_reducible refine Fr.set ?_ _ _ (.inr (by first | omega | (dsimp only; omega)))) | (with_reducible refine Fr.set ?_ _ _ (.inl (by simp)))))

set_option maxHeartbeats 400000 in
theorem weigh_hit {w : World} {p mb : Nat} {T : PoolT} (h : PoolAt w p mb T) (id : Int) (m : Mem) (hg : aget T.l id = some m) (n : Int) (h1 : 0 ≤ n) (h2 : n ≤ 100) :
    Calls Tryz.prog 19 #[.pointer (some ⟨p, 0, none⟩), .int .i64 id, .int .i64 n] w fun en w' => en = .returned (.int .i64 0) ∧ PoolAt w' p mb { T with l := aput T.l id { m with weight := n } } ∧ Fr [mb] w w' := by
  have hm := h.map
  have lk := fun (W : World) (hW : HasMap W mb (Value.int .i64) Mem.val T.l) => look_mem id true W hW
  have ups := fun (v : Value) (W : World) (hW : HasMap W mb (Value.int .i64) Mem.val T.l) => put_mem id v W hW
  simp only [hg, Option.map_some, Option.getD_some, Option.isSome_some, if_true, Mem.val] at lk
  obtain ⟨c0, c1⟩ := pool_cells h.pool
  obtain ⟨pl0, pl1, pl2, pl3, _, _⟩ := lts (lt_of h.pool)
  go_enter Tryz.func19, Tryz.ntmps19
  go_wp2_with (first
    | (go_at_call 44; refine (pmade_walk p mb _ ?_).mono ?_; (go_simp); rintro en w1 ⟨rfl, rfl⟩)
    | go_in)
  go_region
  all_goals go_wp2
  all_goals go_returns
  all_goals refine ⟨rfl, ⟨?_, ?_, h.ne⟩, ?_⟩
  · rw [heap_mput_ne _ _ _ _ h.ne, heap_drew, heap_old _ _ (by simp; omega), heap_old _ _ pl0]
    exact h.pool
  · refine HasMap.put (ek := Value.int .i64) (ev := Mem.val) (fun a b h => by simpa using h) id { m with weight := n } ?_
    simp
    exact hm
  · (repeat (first | (with_reducible exact Fr.refl _ _) | (with_reducible assumption) | (with_reducible refine Fr.drew ?_) | (with_reducible refine Fr.drewN ?_ _) | (with_reducible refine Fr.alloc ?_ _) | (with_reducible refine Fr.mput ?_ _ _ _ (.inl (by simp))) | (with_reducible refine Fr.mdel ?_ _ _ (.inl (by simp))) | (with_reducible refine Fr.set ?_ _ _ (.inr (by first | omega | (dsimp only; omega)))) | (with_reducible refine Fr.set ?_ _ _ (.inl (by simp)))))

set_option maxHeartbeats 400000 in
theorem weigh_miss {w : World} {p mb : Nat} {T : PoolT} (h : PoolAt w p mb T) (id : Int) (hg : aget T.l id = none) (n : Int) :
    Calls Tryz.prog 19 #[.pointer (some ⟨p, 0, none⟩), .int .i64 id, .int .i64 n] w fun en w' => en = .returned (.int .i64 7) ∧ Fr [] w w' := by
  have hm := h.map
  have lk := fun (W : World) (hW : HasMap W mb (Value.int .i64) Mem.val T.l) => look_mem id true W hW
  simp only [hg, Option.map_none, Option.getD_none, Option.isSome_none, if_true] at lk
  obtain ⟨c0, c1⟩ := pool_cells h.pool
  obtain ⟨pl0, pl1, pl2, pl3, _, _⟩ := lts (lt_of h.pool)
  go_enter Tryz.func19, Tryz.ntmps19
  go_wp2_with (first
    | (go_at_call 44; refine (pmade_walk p mb _ ?_).mono ?_; (go_simp); rintro en w1 ⟨rfl, rfl⟩)
    | go_in)
  all_goals go_returns
  all_goals refine ⟨rfl, ?_⟩
  all_goals (repeat (first | (with_reducible exact Fr.refl _ _) | (with_reducible assumption) | (with_reducible refine Fr.drew ?_) | (with_reducible refine Fr.drewN ?_ _) | (with_reducible refine Fr.alloc ?_ _) | (with_reducible refine Fr.mput ?_ _ _ _ (.inl (by simp))) | (with_reducible refine Fr.mdel ?_ _ _ (.inl (by simp))) | (with_reducible refine Fr.set ?_ _ _ (.inr (by first | omega | (dsimp only; omega)))) | (with_reducible refine Fr.set ?_ _ _ (.inl (by simp)))))
end Go.Proofs.YthahlimmmnmniaaGreatDoor

namespace Go.Proofs.YthahlimmmnmniaaGreatDoor
open Go.RowKit Go.Fw

def badB (id addr weight : Int) : Prop := id < 0 ∨ 255 < id ∨ addr = 0 ∨ weight < 0 ∨ 100 < weight
instance (id addr weight : Int) : Decidable (badB id addr weight) := by unfold badB; infer_instance

def padd (T : PoolT) (id addr weight : Int) : PoolT :=
  if badB id addr weight then T else if (aget T.l id).isSome then T else if 16 ≤ T.l.length then T else { T with l := aput T.l id ⟨id, addr, weight, false, false⟩ }

def PoolPost (w : World) (p mb : Nat) (T' : PoolT) (en : Ending) (w' : World) : Prop :=
  (∃ e : Int, en = .returned (.int .i64 e)) ∧ PoolAt w' p mb T' ∧ Fr [mb] w w'

theorem isWeight_yes (n : Int) (w : World) (h1 : 0 ≤ n) (h2 : n ≤ 100) : Calls Tryz.prog 59 #[.int .i64 n] w fun en w' => en = .returned (.bool true) ∧ w = w' := by
  go_enter Tryz.func59, Tryz.ntmps59
  go_wp2
  go_ret
  exact ⟨rfl, rfl⟩
theorem isWeight_no (n : Int) (w : World) (h : n < 0 ∨ 100 < n) : Calls Tryz.prog 59 #[.int .i64 n] w fun en w' => en = .returned (.bool false) ∧ w = w' := by
  by_cases h1 : n < 0
  · go_enter Tryz.func59, Tryz.ntmps59
    go_wp2
    go_ret
    exact ⟨rfl, rfl⟩
  · have h2 : 100 < n := by omega
    clear h
    go_enter Tryz.func59, Tryz.ntmps59
    go_wp2
    go_ret
    exact ⟨by simp; omega, rfl⟩

set_option maxHeartbeats 800000 in
theorem add_bad {w : World} {p mb : Nat} {T : PoolT} (h : PoolAt w p mb T) (id addr weight : Int) (hb : badB id addr weight) :
    Calls Tryz.prog 27 #[.pointer (some ⟨p, 0, none⟩), .agg #[.int .i64 id, .int .u32 addr, .int .i64 weight]] w (PoolPost w p mb T) := by
  obtain ⟨c0, c1⟩ := pool_cells h.pool
  obtain ⟨pl0, pl1, pl2, pl3, _, _⟩ := lts (lt_of h.pool)
  by_cases h1 : id < 0
  · go_enter Tryz.func27, Tryz.ntmps27
    go_wp2_with (first
      | (go_at_call 44; refine (pmade_walk p mb _ ?_).mono ?_; (go_simp); rintro en w1 ⟨rfl, rfl⟩)
      | (go_at_call 59; refine (isWeight_no _ _ (by omega)).mono ?_; rintro en w1 ⟨rfl, rfl⟩))
    all_goals go_returns
    all_goals exact ⟨⟨_, rfl⟩, h.fr (S := []) (by (repeat (first | (with_reducible exact Fr.refl _ _) | (with_reducible assumption) | (with_reducible refine Fr.drew ?_) | (with_reducible refine Fr.drewN ?_ _) | (with_reducible refine Fr.alloc ?_ _) | (with_reducible refine Fr.mput ?_ _ _ _ (.inl (by simp))) | (with_reducible refine Fr.mdel ?_ _ _ (.inl (by simp))) | (with_reducible refine Fr.set ?_ _ _ (.inr (by first | omega | (dsimp only; omega)))) | (with_reducible refine Fr.set ?_ _ _ (.inl (by simp)))))) (by simp) (by simp), by (repeat (first | (with_reducible exact Fr.refl _ _) | (with_reducible assumption) | (with_reducible refine Fr.drew ?_) | (with_reducible refine Fr.drewN ?_ _) | (with_reducible refine Fr.alloc ?_ _) | (with_reducible refine Fr.mput ?_ _ _ _ (.inl (by simp))) | (with_reducible refine Fr.mdel ?_ _ _ (.inl (by simp))) | (with_reducible refine Fr.set ?_ _ _ (.inr (by first | omega | (dsimp only; omega)))) | (with_reducible refine Fr.set ?_ _ _ (.inl (by simp)))))⟩
  · by_cases h2 : 255 < id
    · go_enter Tryz.func27, Tryz.ntmps27
      go_wp2_with (first
        | (go_at_call 44; refine (pmade_walk p mb _ ?_).mono ?_; (go_simp); rintro en w1 ⟨rfl, rfl⟩)
        | (go_at_call 59; refine (isWeight_no _ _ (by omega)).mono ?_; rintro en w1 ⟨rfl, rfl⟩))
      all_goals go_returns
      all_goals exact ⟨⟨_, rfl⟩, h.fr (S := []) (by (repeat (first | (with_reducible exact Fr.refl _ _) | (with_reducible assumption) | (with_reducible refine Fr.drew ?_) | (with_reducible refine Fr.drewN ?_ _) | (with_reducible refine Fr.alloc ?_ _) | (with_reducible refine Fr.mput ?_ _ _ _ (.inl (by simp))) | (with_reducible refine Fr.mdel ?_ _ _ (.inl (by simp))) | (with_reducible refine Fr.set ?_ _ _ (.inr (by first | omega | (dsimp only; omega)))) | (with_reducible refine Fr.set ?_ _ _ (.inl (by simp)))))) (by simp) (by simp), by (repeat (first | (with_reducible exact Fr.refl _ _) | (with_reducible assumption) | (with_reducible refine Fr.drew ?_) | (with_reducible refine Fr.drewN ?_ _) | (with_reducible refine Fr.alloc ?_ _) | (with_reducible refine Fr.mput ?_ _ _ _ (.inl (by simp))) | (with_reducible refine Fr.mdel ?_ _ _ (.inl (by simp))) | (with_reducible refine Fr.set ?_ _ _ (.inr (by first | omega | (dsimp only; omega)))) | (with_reducible refine Fr.set ?_ _ _ (.inl (by simp)))))⟩
    · by_cases h3 : addr = 0
      · subst h3
        go_enter Tryz.func27, Tryz.ntmps27
        go_wp2_with (first
          | (go_at_call 44; refine (pmade_walk p mb _ ?_).mono ?_; (go_simp); rintro en w1 ⟨rfl, rfl⟩)
          | (go_at_call 59; refine (isWeight_no _ _ (by omega)).mono ?_; rintro en w1 ⟨rfl, rfl⟩))
        all_goals go_returns
        all_goals exact ⟨⟨_, rfl⟩, h.fr (S := []) (by (repeat (first | (with_reducible exact Fr.refl _ _) | (with_reducible assumption) | (with_reducible refine Fr.drew ?_) | (with_reducible refine Fr.drewN ?_ _) | (with_reducible refine Fr.alloc ?_ _) | (with_reducible refine Fr.mput ?_ _ _ _ (.inl (by simp))) | (with_reducible refine Fr.mdel ?_ _ _ (.inl (by simp))) | (with_reducible refine Fr.set ?_ _ _ (.inr (by first | omega | (dsimp only; omega)))) | (with_reducible refine Fr.set ?_ _ _ (.inl (by simp)))))) (by simp) (by simp), by (repeat (first | (with_reducible exact Fr.refl _ _) | (with_reducible assumption) | (with_reducible refine Fr.drew ?_) | (with_reducible refine Fr.drewN ?_ _) | (with_reducible refine Fr.alloc ?_ _) | (with_reducible refine Fr.mput ?_ _ _ _ (.inl (by simp))) | (with_reducible refine Fr.mdel ?_ _ _ (.inl (by simp))) | (with_reducible refine Fr.set ?_ _ _ (.inr (by first | omega | (dsimp only; omega)))) | (with_reducible refine Fr.set ?_ _ _ (.inl (by simp)))))⟩
      · have h3' : ((addr : Int) == 0) = false := beq_eq_false_iff_ne.2 h3
        by_cases h4 : weight < 0
        · go_enter Tryz.func27, Tryz.ntmps27
          go_wp2_with (first
            | (go_at_call 44; refine (pmade_walk p mb _ ?_).mono ?_; (go_simp); rintro en w1 ⟨rfl, rfl⟩)
            | (go_at_call 59; refine (isWeight_no _ _ (by omega)).mono ?_; rintro en w1 ⟨rfl, rfl⟩))
          all_goals go_returns
          all_goals exact ⟨⟨_, rfl⟩, h.fr (S := []) (by (repeat (first | (with_reducible exact Fr.refl _ _) | (with_reducible assumption) | (with_reducible refine Fr.drew ?_) | (with_reducible refine Fr.drewN ?_ _) | (with_reducible refine Fr.alloc ?_ _) | (with_reducible refine Fr.mput ?_ _ _ _ (.inl (by simp))) | (with_reducible refine Fr.mdel ?_ _ _ (.inl (by simp))) | (with_reducible refine Fr.set ?_ _ _ (.inr (by first | omega | (dsimp only; omega)))) | (with_reducible refine Fr.set ?_ _ _ (.inl (by simp)))))) (by simp) (by simp), by (repeat (first | (with_reducible exact Fr.refl _ _) | (with_reducible assumption) | (with_reducible refine Fr.drew ?_) | (with_reducible refine Fr.drewN ?_ _) | (with_reducible refine Fr.alloc ?_ _) | (with_reducible refine Fr.mput ?_ _ _ _ (.inl (by simp))) | (with_reducible refine Fr.mdel ?_ _ _ (.inl (by simp))) | (with_reducible refine Fr.set ?_ _ _ (.inr (by first | omega | (dsimp only; omega)))) | (with_reducible refine Fr.set ?_ _ _ (.inl (by simp)))))⟩
        · have h5 : 100 < weight := by unfold badB at hb; omega
          go_enter Tryz.func27, Tryz.ntmps27
          go_wp2_with (first
            | (go_at_call 44; refine (pmade_walk p mb _ ?_).mono ?_; (go_simp); rintro en w1 ⟨rfl, rfl⟩)
            | (go_at_call 59; refine (isWeight_no _ _ (by omega)).mono ?_; rintro en w1 ⟨rfl, rfl⟩))
          all_goals go_returns
          all_goals exact ⟨⟨_, rfl⟩, h.fr (S := []) (by (repeat (first | (with_reducible exact Fr.refl _ _) | (with_reducible assumption) | (with_reducible refine Fr.drew ?_) | (with_reducible refine Fr.drewN ?_ _) | (with_reducible refine Fr.alloc ?_ _) | (with_reducible refine Fr.mput ?_ _ _ _ (.inl (by simp))) | (with_reducible refine Fr.mdel ?_ _ _ (.inl (by simp))) | (with_reducible refine Fr.set ?_ _ _ (.inr (by first | omega | (dsimp only; omega)))) | (with_reducible refine Fr.set ?_ _ _ (.inl (by simp)))))) (by simp) (by simp), by (repeat (first | (with_reducible exact Fr.refl _ _) | (with_reducible assumption) | (with_reducible refine Fr.drew ?_) | (with_reducible refine Fr.drewN ?_ _) | (with_reducible refine Fr.alloc ?_ _) | (with_reducible refine Fr.mput ?_ _ _ _ (.inl (by simp))) | (with_reducible refine Fr.mdel ?_ _ _ (.inl (by simp))) | (with_reducible refine Fr.set ?_ _ _ (.inr (by first | omega | (dsimp only; omega)))) | (with_reducible refine Fr.set ?_ _ _ (.inl (by simp)))))⟩

set_option maxHeartbeats 800000 in
theorem add_good {w : World} {p mb : Nat} {T : PoolT} (h : PoolAt w p mb T) (id addr weight : Int) (hb : ¬ badB id addr weight) :
    Calls Tryz.prog 27 #[.pointer (some ⟨p, 0, none⟩), .agg #[.int .i64 id, .int .u32 addr, .int .i64 weight]] w (PoolPost w p mb (padd T id addr weight)) := by
  have hm := h.map
  have hb' := hb
  unfold badB at hb
  have g1 : 0 ≤ id := by omega
  have g2 : id ≤ 255 := by omega
  have g4 : 0 ≤ weight := by omega
  have g5 : weight ≤ 100 := by omega
  have g3 : ((addr : Int) == 0) = false := beq_eq_false_iff_ne.2 (by omega)
  clear hb
  obtain ⟨c0, c1⟩ := pool_cells h.pool
  obtain ⟨pl0, pl1, pl2, pl3, _, _⟩ := lts (lt_of h.pool)
  have lk := fun (W : World) (hW : HasMap W mb (Value.int .i64) Mem.val T.l) => look_mem id true W hW
  have HB := Lib.hid hb'
  clear hb'
  cases hg : aget T.l id with
  | some m =>
    simp only [hg, Option.map_some, Option.getD_some, Option.isSome_some, if_true, Mem.val] at lk
    have HG := Lib.hid hg
    clear hg
    go_enter Tryz.func27, Tryz.ntmps27
    go_wp2_with (first
      | (go_at_call 44; refine (pmade_walk p mb _ ?_).mono ?_; (go_simp); rintro en w1 ⟨rfl, rfl⟩)
      | (go_at_call 59; refine (isWeight_yes _ _ g4 g5).mono ?_; rintro en w1 ⟨rfl, rfl⟩))
    go_region
    all_goals go_wp2
    all_goals go_returns
    all_goals rw [show padd T id addr weight = T from by rw [padd, if_neg HB.out, HG.out]; rfl]
    all_goals exact ⟨⟨_, rfl⟩, h.fr (S := []) (by (repeat (first | (with_reducible exact Fr.refl _ _) | (with_reducible assumption) | (with_reducible refine Fr.drew ?_) | (with_reducible refine Fr.drewN ?_ _) | (with_reducible refine Fr.alloc ?_ _) | (with_reducible refine Fr.mput ?_ _ _ _ (.inl (by simp))) | (with_reducible refine Fr.mdel ?_ _ _ (.inl (by simp))) | (with_reducible refine Fr.set ?_ _ _ (.inr (by first | omega | (dsimp only; omega)))) | (with_reducible refine Fr.set ?_ _ _ (.inl (by simp)))))) (by simp) (by simp), by (repeat (first | (with_reducible exact Fr.refl _ _) | (with_reducible assumption) | (with_reducible refine Fr.drew ?_) | (with_reducible refine Fr.drewN ?_ _) | (with_reducible refine Fr.alloc ?_ _) | (with_reducible refine Fr.mput ?_ _ _ _ (.inl (by simp))) | (with_reducible refine Fr.mdel ?_ _ _ (.inl (by simp))) | (with_reducible refine Fr.set ?_ _ _ (.inr (by first | omega | (dsimp only; omega)))) | (with_reducible refine Fr.set ?_ _ _ (.inl (by simp)))))⟩
  | none =>
    simp only [hg, Option.map_none, Option.getD_none, Option.isSome_none, if_true] at lk
    have ln := fun (rt : TypeId) (W : World) (hW : HasMap W mb (Value.int .i64) Mem.val T.l) => len_mem rt W hW
    have HG := Lib.hid hg
    clear hg
    by_cases hl : 16 ≤ T.l.length
    · go_enter Tryz.func27, Tryz.ntmps27
      go_wp2_with (first
        | (go_at_call 44; refine (pmade_walk p mb _ ?_).mono ?_; (go_simp); rintro en w1 ⟨rfl, rfl⟩)
        | (go_at_call 59; refine (isWeight_yes _ _ g4 g5).mono ?_; rintro en w1 ⟨rfl, rfl⟩))
      go_region
      all_goals go_wp2
      all_goals go_returns
      all_goals rw [show padd T id addr weight = T from by rw [padd, if_neg HB.out, HG.out]; simp [hl]]
      all_goals exact ⟨⟨_, rfl⟩, h.fr (S := []) (by (repeat (first | (with_reducible exact Fr.refl _ _) | (with_reducible assumption) | (with_reducible refine Fr.drew ?_) | (with_reducible refine Fr.drewN ?_ _) | (with_reducible refine Fr.alloc ?_ _) | (with_reducible refine Fr.mput ?_ _ _ _ (.inl (by simp))) | (with_reducible refine Fr.mdel ?_ _ _ (.inl (by simp))) | (with_reducible refine Fr.set ?_ _ _ (.inr (by first | omega | (dsimp only; omega)))) | (with_reducible refine Fr.set ?_ _ _ (.inl (by simp)))))) (by simp) (by simp), by (repeat (first | (with_reducible exact Fr.refl _ _) | (with_reducible assumption) | (with_reducible refine Fr.drew ?_) | (with_reducible refine Fr.drewN ?_ _) | (with_reducible refine Fr.alloc ?_ _) | (with_reducible refine Fr.mput ?_ _ _ _ (.inl (by simp))) | (with_reducible refine Fr.mdel ?_ _ _ (.inl (by simp))) | (with_reducible refine Fr.set ?_ _ _ (.inr (by first | omega | (dsimp only; omega)))) | (with_reducible refine Fr.set ?_ _ _ (.inl (by simp)))))⟩
    · have ups := fun (v : Value) (W : World) (hW : HasMap W mb (Value.int .i64) Mem.val T.l) => put_mem id v W hW
      go_enter Tryz.func27, Tryz.ntmps27
      go_wp2_with (first
        | (go_at_call 44; refine (pmade_walk p mb _ ?_).mono ?_; (go_simp); rintro en w1 ⟨rfl, rfl⟩)
        | (go_at_call 59; refine (isWeight_yes _ _ g4 g5).mono ?_; rintro en w1 ⟨rfl, rfl⟩))
      go_region
      all_goals go_wp2
      all_goals go_region
      all_goals go_wp2
      all_goals go_returns
      all_goals rw [show padd T id addr weight = { T with l := aput T.l id ⟨id, addr, weight, false, false⟩ } from by rw [padd, if_neg HB.out, HG.out]; simp [hl]]
      all_goals refine ⟨⟨_, rfl⟩, ⟨?_, ?_, h.ne⟩, ?_⟩
      · rw [heap_mput_ne _ _ _ _ h.ne, heap_drew, heap_drew, heap_old _ _ (by simp; omega), heap_old _ _ pl0]
        exact h.pool
      · refine HasMap.put (ek := Value.int .i64) (ev := Mem.val) (fun a b h => by simpa using h) id ⟨id, addr, weight, false, false⟩ ?_
        simp
        exact hm
      · (repeat (first | (with_reducible exact Fr.refl _ _) | (with_reducible assumption) | (with_reducible refine Fr.drew ?_) | (with_reducible refine Fr.drewN ?_ _) | (with_reducible refine Fr.alloc ?_ _) | (with_reducible refine Fr.mput ?_ _ _ _ (.inl (by simp))) | (with_reducible refine Fr.mdel ?_ _ _ (.inl (by simp))) | (with_reducible refine Fr.set ?_ _ _ (.inr (by first | omega | (dsimp only; omega)))) | (with_reducible refine Fr.set ?_ _ _ (.inl (by simp)))))

theorem add_any {w : World} {p mb : Nat} {T : PoolT} (h : PoolAt w p mb T) (id addr weight : Int) :
    Calls Tryz.prog 27 #[.pointer (some ⟨p, 0, none⟩), .agg #[.int .i64 id, .int .u32 addr, .int .i64 weight]] w (PoolPost w p mb (padd T id addr weight)) := by
  by_cases hb : badB id addr weight
  · rw [padd, if_pos hb]; exact add_bad h id addr weight hb
  · exact add_good h id addr weight hb

/-- Mark, Drain, Weigh: the table behind them. -/
def pchange (T : PoolT) (id : Int) (f : Mem → Mem) : PoolT := match aget T.l id with
  | some m => { T with l := aput T.l id (f m) }
  | none => T

theorem mark_any {w : World} {p mb : Nat} {T : PoolT} (h : PoolAt w p mb T) (id : Int) (up : Bool) :
    Calls Tryz.prog 20 #[.pointer (some ⟨p, 0, none⟩), .int .i64 id, .bool up] w (PoolPost w p mb (pchange T id fun m => { m with up := up })) := by
  unfold pchange
  cases hg : aget T.l id with
  | some m => exact (mark_hit h id m hg up).mono fun en w' ⟨h1, h2, h3⟩ => ⟨⟨_, h1⟩, h2, h3⟩
  | none => exact (mark_miss h id hg up).mono fun en w' ⟨h1, h2⟩ => ⟨⟨_, h1⟩, h.fr h2 (by simp) (by simp), h2.mono (by simp)⟩
theorem drain_any {w : World} {p mb : Nat} {T : PoolT} (h : PoolAt w p mb T) (id : Int) (dr : Bool) :
    Calls Tryz.prog 18 #[.pointer (some ⟨p, 0, none⟩), .int .i64 id, .bool dr] w (PoolPost w p mb (pchange T id fun m => { m with drain := dr })) := by
  unfold pchange
  cases hg : aget T.l id with
  | some m => exact (drain_hit h id m hg dr).mono fun en w' ⟨h1, h2, h3⟩ => ⟨⟨_, h1⟩, h2, h3⟩
  | none => exact (drain_miss h id hg dr).mono fun en w' ⟨h1, h2⟩ => ⟨⟨_, h1⟩, h.fr h2 (by simp) (by simp), h2.mono (by simp)⟩
theorem weigh_any {w : World} {p mb : Nat} {T : PoolT} (h : PoolAt w p mb T) (id n : Int) (h1 : 0 ≤ n) (h2 : n ≤ 100) :
    Calls Tryz.prog 19 #[.pointer (some ⟨p, 0, none⟩), .int .i64 id, .int .i64 n] w (PoolPost w p mb (pchange T id fun m => { m with weight := n })) := by
  unfold pchange
  cases hg : aget T.l id with
  | some m => exact (weigh_hit h id m hg n h1 h2).mono fun en w' ⟨h1, h2, h3⟩ => ⟨⟨_, h1⟩, h2, h3⟩
  | none => exact (weigh_miss h id hg n).mono fun en w' ⟨h1, h2⟩ => ⟨⟨_, h1⟩, h.fr h2 (by simp) (by simp), h2.mono (by simp)⟩

def zeroMem : Mem := ⟨0, 0, 0, false, false⟩
def pget (T : PoolT) (id : Int) : Mem := (aget T.l id).getD zeroMem

set_option maxHeartbeats 400000 in
/-- 'get', as its callers meet it. -/
theorem get_mem {w : World} {p mb : Nat} {T : PoolT} (h : PoolAt w p mb T) (id : Int) :
    Calls Tryz.prog 43 #[.pointer (some ⟨p, 0, none⟩), .int .i64 id] w fun en w' => en = .returned (.tuple #[.agg #[.int .i64 (pget T id).id, .int .u32 (pget T id).addr, .int .i64 (pget T id).weight, .bool (pget T id).up, .bool (pget T id).drain], .bool (aget T.l id).isSome]) ∧ Fr [] w w' := by
  have hm := h.map
  have lk := fun (W : World) (hW : HasMap W mb (Value.int .i64) Mem.val T.l) => look_mem id true W hW
  have hv : ((aget T.l id).map Mem.val).getD (.agg #[.int .i64 0, .int .u32 0, .int .i64 0, .bool false, .bool false]) = (pget T id).val := by unfold pget; cases aget T.l id <;> rfl
  simp only [hv, if_true, Mem.val] at lk
  obtain ⟨c0, c1⟩ := pool_cells h.pool
  obtain ⟨pl0, pl1, pl2, pl3, _, _⟩ := lts (lt_of h.pool)
  clear hv
  generalize pget T id = m at *
  generalize (aget T.l id).isSome = bo at *
  go_enter Tryz.func43, Tryz.ntmps43
  go_wp2_with (first
    | (go_at_call 44; refine (pmade_walk p mb _ ?_).mono ?_; (go_simp); rintro en w1 ⟨rfl, rfl⟩))
  all_goals go_returns
  all_goals refine ⟨rfl, ?_⟩
  all_goals (repeat (first | (with_reducible exact Fr.refl _ _) | (with_reducible assumption) | (with_reducible refine Fr.drew ?_) | (with_reducible refine Fr.drewN ?_ _) | (with_reducible refine Fr.alloc ?_ _) | (with_reducible refine Fr.mput ?_ _ _ _ (.inl (by simp))) | (with_reducible refine Fr.mdel ?_ _ _ (.inl (by simp))) | (with_reducible refine Fr.set ?_ _ _ (.inr (by first | omega | (dsimp only; omega)))) | (with_reducible refine Fr.set ?_ _ _ (.inl (by simp)))))

set_option maxHeartbeats 400000 in
theorem up_mem {w : World} {p mb : Nat} {T : PoolT} (h : PoolAt w p mb T) (id : Int) :
    Calls Tryz.prog 10 #[.pointer (some ⟨p, 0, none⟩), .int .i64 id] w fun en w' => en = .returned (.bool (pget T id).up) ∧ Fr [] w w' := by
  go_enter Tryz.func10, Tryz.ntmps10
  go_wp2_with (first
    | (go_at_call 43; refine (get_mem h id).mono ?_; rintro en w1 ⟨rfl, hfr⟩))
  all_goals go_returns
  all_goals refine ⟨rfl, ?_⟩
  all_goals (repeat (first | (with_reducible exact Fr.refl _ _) | (with_reducible assumption) | (with_reducible refine Fr.drew ?_) | (with_reducible refine Fr.drewN ?_ _) | (with_reducible refine Fr.alloc ?_ _) | (with_reducible refine Fr.mput ?_ _ _ _ (.inl (by simp))) | (with_reducible refine Fr.mdel ?_ _ _ (.inl (by simp))) | (with_reducible refine Fr.set ?_ _ _ (.inr (by first | omega | (dsimp only; omega)))) | (with_reducible refine Fr.set ?_ _ _ (.inl (by simp)))))

theorem backend_cells {w : World} {b : Nat} {a1 a2 a3 : Value} (h : w.heap[b]? = some (.cells #[a1, a2, a3] 56 (0, 0))) :
    (w.cell? ⟨b, 0, none⟩ = some a1 ∧ w.cell? ⟨b, 1, none⟩ = some a2 ∧ w.cell? ⟨b, 2, none⟩ = some a3) ∧ (w.frozen? ⟨b, 0, none⟩ = false ∧ w.frozen? ⟨b, 1, none⟩ = false ∧ w.frozen? ⟨b, 2, none⟩ = false) :=
  ⟨⟨cell_at h 0 rfl, cell_at h 1 rfl, cell_at h 2 rfl⟩, free_at h 0, free_at h 1, free_at h 2⟩

set_option maxHeartbeats 400000 in
theorem get_backend {w : World} {p mb : Nat} {T : PoolT} (h : PoolAt w p mb T) (id : Int) :
    Calls Tryz.prog 13 #[.pointer (some ⟨p, 0, none⟩), .int .i64 id] w fun en w' => en = .returned (.tuple #[.agg #[.int .i64 (pget T id).id, .int .u32 (pget T id).addr, .int .i64 (pget T id).weight], .bool (aget T.l id).isSome]) ∧ Fr [] w w' := by
  have hA := fun o => get_mem (h.fr (S := []) ((Fr.refl [] w).alloc o) (by simp) (by simp)) id
  go_enter Tryz.func13, Tryz.ntmps13
  go_wp2_with fail
  refine (hA _).mono ?_
  rintro en w1 ⟨rfl, hfr⟩
  have hB := hfr.keep (k := w.heap.size) (o := .cells #[.int .i64 0, .int .u32 0, .int .i64 0] 56 (0, 0)) (by (try simp only [heap_drewN, heap_drew, heap_alloc_if, World.size_alloc, World.size_setCell, size_mput, size_mdel]); (first | (simp; done) | (simp [zeroEntry]; done) | (simp; omega) | (simp [zeroEntry]; omega))) (by simp)
  have hsz := hfr.size
  simp only [World.size_alloc] at hsz
  obtain ⟨⟨b0, b1, b2⟩, g0, g1, g2⟩ := backend_cells hB
  have hl0 : w.heap.size < w1.heap.size := by omega
  have hF := ((Fr.refl [] w).alloc _).trans hfr (by simp)
  have HF := Lib.hid (And.intro hF hB)
  clear hF hB hfr hsz
  go_wp2
  refine bodyPost_ret (v := .tuple #[.agg #[.int .i64 (pget T id).id, .int .u32 (pget T id).addr, .int .i64 (pget T id).weight], .bool (aget T.l id).isSome]) (by simp [results, Tryz.results13, go_sem, b0, b1, b2, hl0]) rfl ?_
  obtain ⟨hF, _⟩ := HF.out
  refine ⟨rfl, ?_⟩
  (repeat (first | (with_reducible exact Fr.refl _ _) | (with_reducible assumption) | (with_reducible refine Fr.drew ?_) | (with_reducible refine Fr.drewN ?_ _) | (with_reducible refine Fr.alloc ?_ _) | (with_reducible refine Fr.mput ?_ _ _ _ (.inl (by simp))) | (with_reducible refine Fr.mdel ?_ _ _ (.inl (by simp))) | (with_reducible refine Fr.set ?_ _ _ (.inr (by first | omega | (dsimp only; omega)))) | (with_reducible refine Fr.set ?_ _ _ (.inl (by simp)))))

end Go.Proofs.YthahlimmmnmniaaGreatDoor

namespace Go.Proofs.YthahlimmmnmniaaGreatDoor
open Go.RowKit Go.Fw

/-- A member, off its value. -/
def memOf : Value → Mem
  | .agg cs => ⟨intOf (cs.getD 0 undef), intOf (cs.getD 1 undef), intOf (cs.getD 2 undef), (match cs.getD 3 undef with | .bool b => b | _ => false), (match cs.getD 4 undef with | .bool b => b | _ => false)⟩
  | _ => zeroMem
theorem memOf_val (m : Mem) : memOf m.val = m := rfl

def wt (so : Mem → Bool) (m : Mem) : Int := if so m then m.weight else 0
def psum (so : Mem → Bool) (T : PoolT) : Int := (T.l.map fun p => wt so p.2).sum

def POk (T : PoolT) : Prop := T.l.length ≤ 16 ∧ ∀ p ∈ T.l, p.1 = p.2.id ∧ 0 ≤ p.2.id ∧ p.2.id ≤ 255 ∧ 0 ≤ p.2.weight ∧ p.2.weight ≤ 100

def SumPost (so : Mem → Bool) (T : PoolT) (w : World) (en : Ending) (w' : World) : Prop := en = .returned (.int .i64 (psum so T)) ∧ Fr [] w w'

def SumRel (f : MapEntry → Int) (es : Array MapEntry) (it mb clock : Nat) (w : World) (n : Value) (wr : World) : Prop :=
  ∃ seen, n = .int .i64 (sumSeen f es.toList seen) ∧ wr.heap[it]? = some (.mapIter (some mb) clock seen clock) ∧ Fr [] w wr

theorem serves_walk (W : World) (m : Mem) : Calls Tryz.prog 51 #[.agg #[.int .i64 m.id, .int .u32 m.addr, .int .i64 m.weight, .bool m.up, .bool m.drain]] W fun en w' => en = .returned (.bool (m.up && !m.drain)) ∧ Fr [] W w' := by
  cases hu : m.up with
  | true =>
    go_enter Tryz.func51, Tryz.ntmps51
    go_wp2
    all_goals go_returns
    all_goals exact ⟨rfl, by (repeat (first | (with_reducible exact Fr.refl _ _) | (with_reducible assumption) | (with_reducible refine Fr.drew ?_) | (with_reducible refine Fr.drewN ?_ _) | (with_reducible refine Fr.alloc ?_ _) | (with_reducible refine Fr.mput ?_ _ _ _ (.inl (by simp))) | (with_reducible refine Fr.mdel ?_ _ _ (.inl (by simp))) | (with_reducible refine Fr.set ?_ _ _ (.inr (by first | omega | (dsimp only; omega)))) | (with_reducible refine Fr.set ?_ _ _ (.inl (by simp)))))⟩
  | false =>
    go_enter Tryz.func51, Tryz.ntmps51
    go_wp2
    all_goals go_returns
    all_goals exact ⟨rfl, by (repeat (first | (with_reducible exact Fr.refl _ _) | (with_reducible assumption) | (with_reducible refine Fr.drew ?_) | (with_reducible refine Fr.drewN ?_ _) | (with_reducible refine Fr.alloc ?_ _) | (with_reducible refine Fr.mput ?_ _ _ _ (.inl (by simp))) | (with_reducible refine Fr.mdel ?_ _ _ (.inl (by simp))) | (with_reducible refine Fr.set ?_ _ _ (.inr (by first | omega | (dsimp only; omega)))) | (with_reducible refine Fr.set ?_ _ _ (.inl (by simp)))))⟩
theorem total1_walk (W : World) (m : Mem) : Calls Tryz.prog 78 #[.agg #[.int .i64 m.id, .int .u32 m.addr, .int .i64 m.weight, .bool m.up, .bool m.drain]] W fun en w' => en = .returned (.bool true) ∧ Fr [] W w' := by
  go_enter Tryz.func78, Tryz.ntmps78
  go_wp2
  all_goals go_returns
  all_goals exact ⟨rfl, by (repeat (first | (with_reducible exact Fr.refl _ _) | (with_reducible assumption) | (with_reducible refine Fr.drew ?_) | (with_reducible refine Fr.drewN ?_ _) | (with_reducible refine Fr.alloc ?_ _) | (with_reducible refine Fr.mput ?_ _ _ _ (.inl (by simp))) | (with_reducible refine Fr.mdel ?_ _ _ (.inl (by simp))) | (with_reducible refine Fr.set ?_ _ _ (.inr (by first | omega | (dsimp only; omega)))) | (with_reducible refine Fr.set ?_ _ _ (.inl (by simp)))))⟩

set_option maxHeartbeats 1000000 in
theorem weight_serves (so : Mem → Bool) (hg : ∀ (W : World) (m : Mem), Calls Tryz.prog 51 #[.agg #[.int .i64 m.id, .int .u32 m.addr, .int .i64 m.weight, .bool m.up, .bool m.drain]] W fun en w' => en = .returned (.bool (so m)) ∧ Fr [] W w')
    {w : World} {p mb : Nat} {T : PoolT} (h : PoolAt w p mb T) (ok : POk T) :
    Calls Tryz.prog 77 #[.pointer (some ⟨p, 0, none⟩), .func (.func 51) #[] #[]] w (SumPost so T w) := by
  obtain ⟨es, clock, hb, E⟩ := h.map
  obtain ⟨c0, c1⟩ := pool_cells h.pool
  obtain ⟨pl0, pl1, pl2, pl3, _, _⟩ := lts (lt_of h.pool)
  have hrange := run_range (P := Tryz.prog) Tryz.underlying108 hb
  have hmlt := lt_of hb
  have hin : ∀ e ∈ es.toList, ∃ q ∈ T.l, e.key = .int .i64 q.1 ∧ e.val = q.2.val := by
    intro e he
    obtain ⟨j, hj⟩ := List.mem_iff_getElem?.1 he
    obtain ⟨q, hq, hk, hv⟩ := E.at hj
    exact ⟨q, List.mem_of_getElem? hq, hk, hv⟩
  have hsum : (es.toList.map fun e => wt so (memOf e.val)).sum = psum so T := by
    unfold psum
    have : es.toList.map (fun e => wt so (memOf e.val)) = T.l.map (fun p => wt so p.2) := by
      have h1 := congrArg (List.map fun (x : Value × Value) => wt so (memOf x.2)) E.reads
      simpa [List.map_map, Function.comp_def, memOf_val] using h1
    rw [this]
  have hpos : ∀ e ∈ es.toList, 0 ≤ wt so (memOf e.val) ∧ wt so (memOf e.val) ≤ 100 := by
    intro e he
    obtain ⟨q, hq, _, hv⟩ := hin e he
    have := ok.2 q hq
    rw [hv, memOf_val]
    unfold wt
    split <;> omega
  have htot : (es.toList.map fun e => wt so (memOf e.val)).sum ≤ 1600 := by
    have h1 := sum_le (fun e => wt so (memOf e.val)) 100 es.toList (fun e he => (hpos e he).2)
    have h2 := E.size
    have h3 := ok.1
    rw [Array.length_toList, h2] at h1
    omega
  have H := Lib.hid (And.intro hin (And.intro hsum (And.intro hpos htot)))
  have HB := Lib.hid (And.intro hb E)
  have okq := ok
  clear hin hsum hpos htot hb ok
  go_enter Tryz.func77, Tryz.ntmps77
  go_wp2_with (first
    | (go_at_call 44; refine (pmade_walk p mb _ ?_).mono ?_; (go_simp); rintro en w1 ⟨rfl, rfl⟩))
  go_loopw [5] (fun n wr => SumRel (fun e => wt so (memOf e.val)) es w.heap.size mb clock w n wr) (fun _ wr => wr.toCome w.heap.size es)
  case atStart => exact ⟨#[], by rw [sumSeen_none], heap_new w _, (Fr.refl _ _).alloc _⟩
  case round =>
    obtain ⟨seen, rfl, hit, hfr⟩ := hrel
    obtain ⟨hin, hsum, hpos, htot⟩ := H.out
    obtain ⟨hb, E⟩ := HB.out
    have hb1 := hfr.keep hb (by simp)
    rcases run_next (P := Tryz.prog) hb1 hit E.lt with ⟨h0, hrun⟩ | ⟨e, he, nd, hrun⟩
    · have hend : sumSeen (fun e => wt so (memOf e.val)) es.toList seen = psum so T := by
        rw [sumSeen_full _ _ _ (all_seen es seen h0)]; exact hsum
      rw [hend]
      have HE := Lib.hid (And.intro hb (And.intro hb1 (And.intro hit (And.intro hfr h0))))
      clear hb hb1 hit hfr h0 hin hsum hpos htot hend
      go_wp2
      all_goals go_returns
      all_goals exact ⟨rfl, HE.out.2.2.2.1⟩
    · obtain ⟨hm1, hm2⟩ := mem_left he
      obtain ⟨q, hq, hk, hv⟩ := hin e hm1
      have hpush := sumSeen_push (fun e => wt so (memOf e.val)) seen e hm2 es.toList E.born hm1
      have hbd := sumSeen_bd (fun e => wt so (memOf e.val)) seen es.toList (fun x hx => (hpos x hx).1)
      have hbd2 := sumSeen_bd (fun e => wt so (memOf e.val)) (seen.push e.born) es.toList (fun x hx => (hpos x hx).1)
      have hit2 : ((wr.drewN nd).iput w.heap.size (seen.push e.born)).heap[w.heap.size]? = _ := heap_iput (w := wr.drewN nd) hit (seen.push e.born)
      have hb2 : ((wr.drewN nd).iput w.heap.size (seen.push e.born)).heap[mb]? = some (.map es clock) := by rw [heap_iput_ne _ _ _ (by omega)]; exact hb1
      have hent := run_entry (P := Tryz.prog) hb2 hit2 hm1 E.born
      have hwt : wt so (memOf e.val) = wt so q.2 := by rw [hv, memOf_val]
      have hlt := left_shrinks es seen e he
      rw [hk, hv, Mem.val] at hrun hent
      simp only [hwt] at hpush
      generalize hs1 : sumSeen (fun e => wt so (memOf e.val)) es.toList seen = s1 at *
      generalize hs2 : sumSeen (fun e => wt so (memOf e.val)) es.toList (seen.push e.born) = s2 at *
      have HE := Lib.hid (And.intro hs1 (And.intro hs2 (And.intro hpush (And.intro hwt (And.intro hit2 (And.intro hb2 (And.intro hb (And.intro hb1 (And.intro hit (And.intro hfr (And.intro hlt hsum)))))))))))
      have hsz := hfr.size
      have hitlt := lt_of hit
      have b1 : 0 ≤ s1 := hbd.1
      have b2 : s1 ≤ 1600 := by omega
      have w1 : 0 ≤ q.2.weight := (okq.2 q hq).2.2.2.1
      have w2 : q.2.weight ≤ 100 := (okq.2 q hq).2.2.2.2
      clear hs1 hs2 hpush hwt hit2 hb2 hb hb1 hit hfr hlt hsum hin hpos hk hv hbd hbd2 htot
      have hg' := fun W => hg W q.2
      cases hso : so q.2 with
      | true =>
        have HS := Lib.hid hso
        rw [hso] at hg'
        have HG := Lib.hid hg'
        clear hso hm1 hm2 he hrange hg hq E hg' okq
        go_wp2_with fail
        refine (HG.out _).mono ?_
        rintro en w3 ⟨rfl, hfr3⟩
        have hM := hfr3.keep (k := wr.heap.size) (o := .cells #[.int .i64 q.2.id, .int .u32 q.2.addr, .int .i64 q.2.weight, .bool q.2.up, .bool q.2.drain] 103 (0, 0)) (by rw [heap_alloc_if, if_pos (by simp)]) (by simp)
        have m2 := cell_at hM 2 (v := .int .i64 q.2.weight) rfl
        have HH := Lib.hid (And.intro hM hfr3)
        clear hM hfr3
        go_wp2
        go_roundw
        all_goals obtain ⟨hs1, hs2, hpush, hwt, hit2, hb2, hb, hb1, hit, hfr, hlt, hsum⟩ := HE.out
        all_goals obtain ⟨hM, hfr3⟩ := HH.out
        all_goals have hit3 := hfr3.keep (k := w.heap.size) (by rw [heap_old _ _ (by simp; omega)]; exact hit2) (by simp)
        · refine ⟨seen.push e.born, ?_, hit3, ?_⟩
          · rw [hs2, hpush, wt, if_pos HS.out]
          · exact (((hfr.drewN nd).iput _ _ (.inr (Nat.le_refl _))).alloc _).trans hfr3 (by simp)
        · rw [toCome_eq hit3, toCome_eq hit]
          exact hlt
      | false =>
        have HS := Lib.hid hso
        rw [hso] at hg'
        have HG := Lib.hid hg'
        clear hso hm1 hm2 he hrange hg hq E hg' okq
        go_wp2_with fail
        refine (HG.out _).mono ?_
        rintro en w3 ⟨rfl, hfr3⟩
        have HH := Lib.hid hfr3
        clear hfr3
        go_wp2
        go_roundw
        all_goals obtain ⟨hs1, hs2, hpush, hwt, hit2, hb2, hb, hb1, hit, hfr, hlt, hsum⟩ := HE.out
        all_goals have hfr3 := HH.out
        all_goals have hit3 := hfr3.keep (k := w.heap.size) (by rw [heap_old _ _ (by simp; omega)]; exact hit2) (by simp)
        · refine ⟨seen.push e.born, ?_, hit3, ?_⟩
          · rw [hs2, hpush, wt, if_neg (by rw [HS.out]; simp)]; simp
          · exact (((hfr.drewN nd).iput _ _ (.inr (Nat.le_refl _))).alloc _).trans hfr3 (by simp)
        · rw [toCome_eq hit3, toCome_eq hit]
          exact hlt

set_option maxHeartbeats 1000000 in
theorem weight_all (so : Mem → Bool) (hg : ∀ (W : World) (m : Mem), Calls Tryz.prog 78 #[.agg #[.int .i64 m.id, .int .u32 m.addr, .int .i64 m.weight, .bool m.up, .bool m.drain]] W fun en w' => en = .returned (.bool (so m)) ∧ Fr [] W w')
    {w : World} {p mb : Nat} {T : PoolT} (h : PoolAt w p mb T) (ok : POk T) :
    Calls Tryz.prog 77 #[.pointer (some ⟨p, 0, none⟩), .func (.func 78) #[] #[]] w (SumPost so T w) := by
  obtain ⟨es, clock, hb, E⟩ := h.map
  obtain ⟨c0, c1⟩ := pool_cells h.pool
  obtain ⟨pl0, pl1, pl2, pl3, _, _⟩ := lts (lt_of h.pool)
  have hrange := run_range (P := Tryz.prog) Tryz.underlying108 hb
  have hmlt := lt_of hb
  have hin : ∀ e ∈ es.toList, ∃ q ∈ T.l, e.key = .int .i64 q.1 ∧ e.val = q.2.val := by
    intro e he
    obtain ⟨j, hj⟩ := List.mem_iff_getElem?.1 he
    obtain ⟨q, hq, hk, hv⟩ := E.at hj
    exact ⟨q, List.mem_of_getElem? hq, hk, hv⟩
  have hsum : (es.toList.map fun e => wt so (memOf e.val)).sum = psum so T := by
    unfold psum
    have : es.toList.map (fun e => wt so (memOf e.val)) = T.l.map (fun p => wt so p.2) := by
      have h1 := congrArg (List.map fun (x : Value × Value) => wt so (memOf x.2)) E.reads
      simpa [List.map_map, Function.comp_def, memOf_val] using h1
    rw [this]
  have hpos : ∀ e ∈ es.toList, 0 ≤ wt so (memOf e.val) ∧ wt so (memOf e.val) ≤ 100 := by
    intro e he
    obtain ⟨q, hq, _, hv⟩ := hin e he
    have := ok.2 q hq
    rw [hv, memOf_val]
    unfold wt
    split <;> omega
  have htot : (es.toList.map fun e => wt so (memOf e.val)).sum ≤ 1600 := by
    have h1 := sum_le (fun e => wt so (memOf e.val)) 100 es.toList (fun e he => (hpos e he).2)
    have h2 := E.size
    have h3 := ok.1
    rw [Array.length_toList, h2] at h1
    omega
  have H := Lib.hid (And.intro hin (And.intro hsum (And.intro hpos htot)))
  have HB := Lib.hid (And.intro hb E)
  have okq := ok
  clear hin hsum hpos htot hb ok
  go_enter Tryz.func77, Tryz.ntmps77
  go_wp2_with (first
    | (go_at_call 44; refine (pmade_walk p mb _ ?_).mono ?_; (go_simp); rintro en w1 ⟨rfl, rfl⟩))
  go_loopw [5] (fun n wr => SumRel (fun e => wt so (memOf e.val)) es w.heap.size mb clock w n wr) (fun _ wr => wr.toCome w.heap.size es)
  case atStart => exact ⟨#[], by rw [sumSeen_none], heap_new w _, (Fr.refl _ _).alloc _⟩
  case round =>
    obtain ⟨seen, rfl, hit, hfr⟩ := hrel
    obtain ⟨hin, hsum, hpos, htot⟩ := H.out
    obtain ⟨hb, E⟩ := HB.out
    have hb1 := hfr.keep hb (by simp)
    rcases run_next (P := Tryz.prog) hb1 hit E.lt with ⟨h0, hrun⟩ | ⟨e, he, nd, hrun⟩
    · have hend : sumSeen (fun e => wt so (memOf e.val)) es.toList seen = psum so T := by
        rw [sumSeen_full _ _ _ (all_seen es seen h0)]; exact hsum
      rw [hend]
      have HE := Lib.hid (And.intro hb (And.intro hb1 (And.intro hit (And.intro hfr h0))))
      clear hb hb1 hit hfr h0 hin hsum hpos htot hend
      go_wp2
      all_goals go_returns
      all_goals exact ⟨rfl, HE.out.2.2.2.1⟩
    · obtain ⟨hm1, hm2⟩ := mem_left he
      obtain ⟨q, hq, hk, hv⟩ := hin e hm1
      have hpush := sumSeen_push (fun e => wt so (memOf e.val)) seen e hm2 es.toList E.born hm1
      have hbd := sumSeen_bd (fun e => wt so (memOf e.val)) seen es.toList (fun x hx => (hpos x hx).1)
      have hbd2 := sumSeen_bd (fun e => wt so (memOf e.val)) (seen.push e.born) es.toList (fun x hx => (hpos x hx).1)
      have hit2 : ((wr.drewN nd).iput w.heap.size (seen.push e.born)).heap[w.heap.size]? = _ := heap_iput (w := wr.drewN nd) hit (seen.push e.born)
      have hb2 : ((wr.drewN nd).iput w.heap.size (seen.push e.born)).heap[mb]? = some (.map es clock) := by rw [heap_iput_ne _ _ _ (by omega)]; exact hb1
      have hent := run_entry (P := Tryz.prog) hb2 hit2 hm1 E.born
      have hwt : wt so (memOf e.val) = wt so q.2 := by rw [hv, memOf_val]
      have hlt := left_shrinks es seen e he
      rw [hk, hv, Mem.val] at hrun hent
      simp only [hwt] at hpush
      generalize hs1 : sumSeen (fun e => wt so (memOf e.val)) es.toList seen = s1 at *
      generalize hs2 : sumSeen (fun e => wt so (memOf e.val)) es.toList (seen.push e.born) = s2 at *
      have HE := Lib.hid (And.intro hs1 (And.intro hs2 (And.intro hpush (And.intro hwt (And.intro hit2 (And.intro hb2 (And.intro hb (And.intro hb1 (And.intro hit (And.intro hfr (And.intro hlt hsum)))))))))))
      have hsz := hfr.size
      have hitlt := lt_of hit
      have b1 : 0 ≤ s1 := hbd.1
      have b2 : s1 ≤ 1600 := by omega
      have w1 : 0 ≤ q.2.weight := (okq.2 q hq).2.2.2.1
      have w2 : q.2.weight ≤ 100 := (okq.2 q hq).2.2.2.2
      clear hs1 hs2 hpush hwt hit2 hb2 hb hb1 hit hfr hlt hsum hin hpos hk hv hbd hbd2 htot
      have hg' := fun W => hg W q.2
      cases hso : so q.2 with
      | true =>
        have HS := Lib.hid hso
        rw [hso] at hg'
        have HG := Lib.hid hg'
        clear hso hm1 hm2 he hrange hg hq E hg' okq
        go_wp2_with fail
        refine (HG.out _).mono ?_
        rintro en w3 ⟨rfl, hfr3⟩
        have hM := hfr3.keep (k := wr.heap.size) (o := .cells #[.int .i64 q.2.id, .int .u32 q.2.addr, .int .i64 q.2.weight, .bool q.2.up, .bool q.2.drain] 103 (0, 0)) (by rw [heap_alloc_if, if_pos (by simp)]) (by simp)
        have m2 := cell_at hM 2 (v := .int .i64 q.2.weight) rfl
        have HH := Lib.hid (And.intro hM hfr3)
        clear hM hfr3
        go_wp2
        go_roundw
        all_goals obtain ⟨hs1, hs2, hpush, hwt, hit2, hb2, hb, hb1, hit, hfr, hlt, hsum⟩ := HE.out
        all_goals obtain ⟨hM, hfr3⟩ := HH.out
        all_goals have hit3 := hfr3.keep (k := w.heap.size) (by rw [heap_old _ _ (by simp; omega)]; exact hit2) (by simp)
        · refine ⟨seen.push e.born, ?_, hit3, ?_⟩
          · rw [hs2, hpush, wt, if_pos HS.out]
          · exact (((hfr.drewN nd).iput _ _ (.inr (Nat.le_refl _))).alloc _).trans hfr3 (by simp)
        · rw [toCome_eq hit3, toCome_eq hit]
          exact hlt
      | false =>
        have HS := Lib.hid hso
        rw [hso] at hg'
        have HG := Lib.hid hg'
        clear hso hm1 hm2 he hrange hg hq E hg' okq
        go_wp2_with fail
        refine (HG.out _).mono ?_
        rintro en w3 ⟨rfl, hfr3⟩
        have HH := Lib.hid hfr3
        clear hfr3
        go_wp2
        go_roundw
        all_goals obtain ⟨hs1, hs2, hpush, hwt, hit2, hb2, hb, hb1, hit, hfr, hlt, hsum⟩ := HE.out
        all_goals have hfr3 := HH.out
        all_goals have hit3 := hfr3.keep (k := w.heap.size) (by rw [heap_old _ _ (by simp; omega)]; exact hit2) (by simp)
        · refine ⟨seen.push e.born, ?_, hit3, ?_⟩
          · rw [hs2, hpush, wt, if_neg (by rw [HS.out]; simp)]; simp
          · exact (((hfr.drewN nd).iput _ _ (.inr (Nat.le_refl _))).alloc _).trans hfr3 (by simp)
        · rw [toCome_eq hit3, toCome_eq hit]
          exact hlt

end Go.Proofs.YthahlimmmnmniaaGreatDoor

namespace Go.Proofs.YthahlimmmnmniaaGreatDoor
open Go.RowKit Go.Fw

def healthy (T : PoolT) : Int := psum (fun m => m.up && !m.drain) T
def total (T : PoolT) : Int := psum (fun _ => true) T

theorem psum_bd (so : Mem → Bool) {T : PoolT} (ok : POk T) : 0 ≤ psum so T ∧ psum so T ≤ 1600 := by
  unfold psum
  have h1 : ∀ l : List (Int × Mem), (∀ p ∈ l, 0 ≤ p.2.weight ∧ p.2.weight ≤ 100) → 0 ≤ (l.map fun p => wt so p.2).sum ∧ (l.map fun p => wt so p.2).sum ≤ 100 * l.length := by
    intro l hl
    induction l with
    | nil => simp
    | cons x l ih =>
      have h2 := ih (fun p hp => hl p (List.mem_cons_of_mem _ hp))
      have h3 := hl x (List.mem_cons_self ..)
      simp only [List.map_cons, List.sum_cons, List.length_cons]
      unfold wt at *
      rw [show ((l.length + 1 : Nat) : Int) = (l.length : Int) + 1 by omega, Int.mul_add]
      split <;> omega
  have h2 := h1 T.l (fun p hp => ⟨(ok.2 p hp).2.2.2.1, (ok.2 p hp).2.2.2.2⟩)
  have h3 := ok.1
  omega

theorem healthy_any {w : World} {p mb : Nat} {T : PoolT} (h : PoolAt w p mb T) (ok : POk T) :
    Calls Tryz.prog 46 #[.pointer (some ⟨p, 0, none⟩)] w fun en w' => en = .returned (.int .i64 (healthy T)) ∧ Fr [] w w' := by
  go_enter Tryz.func46, Tryz.ntmps46
  go_wp2_with fail
  refine (weight_serves (fun m => m.up && !m.drain) (fun W m => serves_walk W m) h ok).mono ?_
  rintro en w1 ⟨rfl, hfr⟩
  go_wp2
  go_returns
  exact ⟨rfl, hfr⟩
theorem total_any {w : World} {p mb : Nat} {T : PoolT} (h : PoolAt w p mb T) (ok : POk T) :
    Calls Tryz.prog 47 #[.pointer (some ⟨p, 0, none⟩)] w fun en w' => en = .returned (.int .i64 (total T)) ∧ Fr [] w w' := by
  go_enter Tryz.func47, Tryz.ntmps47
  go_wp2_with fail
  refine (weight_all (fun _ => true) (fun W m => total1_walk W m) h ok).mono ?_
  rintro en w1 ⟨rfl, hfr⟩
  go_wp2
  go_returns
  exact ⟨rfl, hfr⟩

def quorum (h t p : Int) : Bool := decide (0 < h) && decide (p * t ≤ 100 * h)

set_option maxHeartbeats 1000000 in
theorem quorum_any (a b c : Int) (w : World) (a0 : 0 ≤ a) (a1 : a ≤ 1600) (b0 : 0 ≤ b) (b1 : b ≤ 1600) (c0 : 0 ≤ c) (c1 : c ≤ 100) :
    Calls Tryz.prog 45 #[.int .i64 a, .int .i64 b, .int .i64 c] w fun en w' => en = .returned (.bool (quorum a b c)) ∧ Fr [] w w' := by
  have i0 : ∀ w, (Instr.index 154 (.agg #[.int .i64 a, .int .i64 b, .int .i64 c]) (.int .i64 0)).run Tryz.prog w = .ok (.int .i64 a) w := fun _ => by kernel_rfl
  have i1 : ∀ w, (Instr.index 154 (.agg #[.int .i64 a, .int .i64 b, .int .i64 c]) (.int .i64 1)).run Tryz.prog w = .ok (.int .i64 b) w := fun _ => by kernel_rfl
  have i2 : ∀ w, (Instr.index 154 (.agg #[.int .i64 a, .int .i64 b, .int .i64 c]) (.int .i64 2)).run Tryz.prog w = .ok (.int .i64 c) w := fun _ => by kernel_rfl
  go_enter Tryz.func45, Tryz.ntmps45
  go_wp2
  refine wp_loop_rounds 4 ?_
  rw [rounds_succ]; go_wp2
  rw [rounds_succ]; go_wp2
  rw [rounds_succ]; go_wp2
  rw [rounds_succ]; go_wp2
  all_goals go_returns
  · have hpos : 0 < a := by assumption
    have hm0 : 0 ≤ c * b := Int.mul_nonneg c0 b0
    have hm1 : c * b ≤ 100 * 1600 := Int.mul_le_mul c1 b1 b0 (by omega)
    have hw : wrap64 (c * b) = c * b := IntWalk.wrap64_in _ ⟨by omega, by omega⟩
    refine ⟨?_, Fr.refl _ _⟩
    show Ending.returned (Value.bool (decide (wrap64 (c * b) ≤ 100 * a))) = _
    rw [hw]
    simp [quorum, hpos]
  · have hneg : ¬ 0 < a := by
      have : a ≤ 0 := by assumption
      omega
    refine ⟨?_, Fr.refl _ _⟩
    show Ending.returned (Value.bool false) = _
    simp [quorum, hneg]

def quorate (T : PoolT) : Bool := quorum (healthy T) (total T) T.percent

set_option maxHeartbeats 1000000 in
theorem quorate_any {w : World} {p mb : Nat} {T : PoolT} (h : PoolAt w p mb T) (ok : POk T) (p0 : 1 ≤ T.percent) (p1 : T.percent ≤ 100) :
    Calls Tryz.prog 11 #[.pointer (some ⟨p, 0, none⟩)] w fun en w' => en = .returned (.bool (quorate T)) ∧ Fr [] w w' := by
  obtain ⟨c0, c1⟩ := pool_cells h.pool
  have hp := h.pool
  obtain ⟨h0, h1⟩ := psum_bd (fun m => m.up && !m.drain) ok
  obtain ⟨t0, t1⟩ := psum_bd (fun _ => true) ok
  have HP := Lib.hid hp
  clear hp
  change 0 ≤ healthy T at h0
  change healthy T ≤ 1600 at h1
  change 0 ≤ total T at t0
  change total T ≤ 1600 at t1
  go_enter Tryz.func11, Tryz.ntmps11
  go_wp2
  go_region_with (first
    | (go_at_call 44; refine (pmade_walk p mb _ ?_).mono ?_; (go_simp); rintro en w1 ⟨rfl, hw⟩; obtain rfl := hw.symm)
    | (go_at_call 46; refine (healthy_any (T := T) (p := p) (mb := mb) (h.fr (S := []) ?_ (by simp) (by simp)) ok).mono ?_; ((repeat (first | (with_reducible exact Fr.refl _ _) | (with_reducible assumption) | (with_reducible refine Fr.drew ?_) | (with_reducible refine Fr.drewN ?_ _) | (with_reducible refine Fr.alloc ?_ _) | (with_reducible refine Fr.mput ?_ _ _ _ (.inl (by simp))) | (with_reducible refine Fr.mdel ?_ _ _ (.inl (by simp))) | (with_reducible refine Fr.set ?_ _ _ (.inr (by first | omega | (dsimp only; omega)))) | (with_reducible refine Fr.set ?_ _ _ (.inl (by simp)))))); rintro en w1 ⟨rfl, hfr1⟩; (have hF1 := Fr.trans (S := []) (a := w) (by (repeat (first | (with_reducible exact Fr.refl _ _) | (with_reducible assumption) | (with_reducible refine Fr.drew ?_) | (with_reducible refine Fr.drewN ?_ _) | (with_reducible refine Fr.alloc ?_ _) | (with_reducible refine Fr.mput ?_ _ _ _ (.inl (by simp))) | (with_reducible refine Fr.mdel ?_ _ _ (.inl (by simp))) | (with_reducible refine Fr.set ?_ _ _ (.inr (by first | omega | (dsimp only; omega)))) | (with_reducible refine Fr.set ?_ _ _ (.inl (by simp)))))) hfr1 (by simp)); (have c01 := (pool_cells (hF1.keep HP.out (by simp))).1); clear hfr1)
    | (go_at_call 47; refine (total_any (T := T) (p := p) (mb := mb) (h.fr (S := []) ?_ (by simp) (by simp)) ok).mono ?_; ((repeat (first | (with_reducible exact Fr.refl _ _) | (with_reducible assumption) | (with_reducible refine Fr.drew ?_) | (with_reducible refine Fr.drewN ?_ _) | (with_reducible refine Fr.alloc ?_ _) | (with_reducible refine Fr.mput ?_ _ _ _ (.inl (by simp))) | (with_reducible refine Fr.mdel ?_ _ _ (.inl (by simp))) | (with_reducible refine Fr.set ?_ _ _ (.inr (by first | omega | (dsimp only; omega)))) | (with_reducible refine Fr.set ?_ _ _ (.inl (by simp)))))); rintro en w2 ⟨rfl, hfr2⟩; (have hF2 := Fr.trans (S := []) (a := w) (by (repeat (first | (with_reducible exact Fr.refl _ _) | (with_reducible assumption) | (with_reducible refine Fr.drew ?_) | (with_reducible refine Fr.drewN ?_ _) | (with_reducible refine Fr.alloc ?_ _) | (with_reducible refine Fr.mput ?_ _ _ _ (.inl (by simp))) | (with_reducible refine Fr.mdel ?_ _ _ (.inl (by simp))) | (with_reducible refine Fr.set ?_ _ _ (.inr (by first | omega | (dsimp only; omega)))) | (with_reducible refine Fr.set ?_ _ _ (.inl (by simp)))))) hfr2 (by simp)); (have c02 := (pool_cells (hF2.keep HP.out (by simp))).1); clear hfr2)
    | (go_at_call 45; refine (quorum_any _ _ _ _ h0 h1 t0 t1 (by omega) p1).mono ?_; rintro en w3 ⟨rfl, hfr3⟩; (have hF3 := Fr.trans (S := []) (a := w) (by (repeat (first | (with_reducible exact Fr.refl _ _) | (with_reducible assumption) | (with_reducible refine Fr.drew ?_) | (with_reducible refine Fr.drewN ?_ _) | (with_reducible refine Fr.alloc ?_ _) | (with_reducible refine Fr.mput ?_ _ _ _ (.inl (by simp))) | (with_reducible refine Fr.mdel ?_ _ _ (.inl (by simp))) | (with_reducible refine Fr.set ?_ _ _ (.inr (by first | omega | (dsimp only; omega)))) | (with_reducible refine Fr.set ?_ _ _ (.inl (by simp)))))) hfr3 (by simp)); clear hfr3))
  all_goals go_wp2
  all_goals go_returns
  all_goals exact ⟨rfl, by (repeat (first | (with_reducible exact Fr.refl _ _) | (with_reducible assumption) | (with_reducible refine Fr.drew ?_) | (with_reducible refine Fr.drewN ?_ _) | (with_reducible refine Fr.alloc ?_ _) | (with_reducible refine Fr.mput ?_ _ _ _ (.inl (by simp))) | (with_reducible refine Fr.mdel ?_ _ _ (.inl (by simp))) | (with_reducible refine Fr.set ?_ _ _ (.inr (by first | omega | (dsimp only; omega)))) | (with_reducible refine Fr.set ?_ _ _ (.inl (by simp)))))⟩
end Go.Proofs.YthahlimmmnmniaaGreatDoor
