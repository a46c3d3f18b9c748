/- The keys of the flow table's map: what the laws on maps want of them. No conditions. The flow table's small methods (time, made, out, last): what each does to memory, cell by cell. The flow table in memory: what it reads as, and what out and last do to its ring. -/
import Derived.Test.YthahlimmmnmniaaGreatDoorRows
import Derived.Test.YthahlimmmnmniaaGreatDoorR02
namespace Go.Proofs.YthahlimmmnmniaaGreatDoor
open Go.RowKit Go.Fw

structure Flow where
  proto : Int
  src : Int
  dst : Int
  sport : Int
  dport : Int
instance : DecidableEq Flow := fun a b => decidable_of_iff (a.proto = b.proto ∧ a.src = b.src ∧ a.dst = b.dst ∧ a.sport = b.sport ∧ a.dport = b.dport) ⟨fun ⟨h1, h2, h3, h4, h5⟩ => by cases a; cases b; simp only at h1 h2 h3 h4 h5; subst h1 h2 h3 h4 h5; rfl, fun h => by subst h; exact ⟨rfl, rfl, rfl, rfl, rfl⟩⟩

def Flow.val (f : Flow) : Value := .agg #[.int .i64 f.proto, .int .u32 f.src, .int .u32 f.dst, .int .i64 f.sport, .int .i64 f.dport]

theorem Flow.val_inj (a b : Flow) (h : a.val = b.val) : a = b := by
  cases a; cases b
  simp [Flow.val] at h
  simp [h]

theorem flow_eq (w : World) (a b : Flow) : (Op.equal 31 a.val b.val).run Tryz.prog w = .ok (decide (a = b)) w := by
  have u3 := Tryz.underlying3
  have a3 := Tryz.isAgg3
  have z3 := Tryz.sizeOf3
  have u4 := Tryz.underlying29
  have a4 := Tryz.isAgg29
  have z4 := Tryz.sizeOf29
  have hs : Tryz.prog.stoodInHeld 31 = false := by kernel_rfl
  have hf : Tryz.prog.underlying 31 = some (.struct (Tryz.prog.fieldsOf 31)) := by kernel_rfl
  rw [Op.equal, Op.maxDepth]
  simp only [Flow.val]
  rw [show (10000 : Nat) = 9999 + 1 from rfl, run_equalIn_struct w 9999 31 _ _ hf hs]
  simp only [Program.fieldsOf, Tryz.underlying31]
  obtain ⟨a1, a2, a3, a4, a5⟩ := a
  obtain ⟨b1, b2, b3, b4, b5⟩ := b
  go_simp
  by_cases h1 : a1 = b1 <;> by_cases h2 : a2 = b2 <;> by_cases h3 : a3 = b3 <;> by_cases h4 : a4 = b4 <;> by_cases h5 : a5 = b5 <;> simp [h1, h2, h3, h4, h5]

theorem flow_asks (w : World) (k : Flow) : ∀ (es : List MapEntry) (i : Nat), (∀ e ∈ es, ∃ x : Flow, e.key = x.val) →
    ((Instr.findAsking 31 k.val es i).run Tryz.prog w = .ok none w ∧ ∀ e ∈ es, e.key ≠ k.val) ∨ ∃ j e, (Instr.findAsking 31 k.val es i).run Tryz.prog w = .ok (some (i + j, e.val)) w ∧ es[j]? = some e ∧ e.key = k.val
  | [], i, _ => .inl ⟨by simp [Instr.findAsking], fun _ h => by cases h⟩
  | e :: es, i, h => by
    obtain ⟨x, hx⟩ := h e (List.mem_cons_self ..)
    have heq : (Op.equal 31 k.val e.key).run Tryz.prog w = .ok (decide (k = x)) w := by rw [hx]; exact flow_eq w k x
    by_cases hk : k = x
    · refine .inr ⟨0, e, ?_, rfl, by rw [hx, hk]⟩
      rw [decide_eq_true hk] at heq
      simp [Instr.findAsking, heq]
    · have hne : e.key ≠ k.val := fun hc => hk (Flow.val_inj _ _ (hc.symm.trans hx))
      rw [decide_eq_false hk] at heq
      rcases flow_asks w k es (i + 1) (fun e he => h e (List.mem_cons_of_mem _ he)) with ⟨h1, h2⟩ | ⟨j, e', h1, h2, h3⟩
      · refine .inl ⟨by simp [Instr.findAsking, heq, h1], fun e' he' => ?_⟩
        rcases List.mem_cons.1 he' with rfl | he'
        · exact hne
        · exact h2 e' he'
      · refine .inr ⟨j + 1, e', ?_, by simpa using h2, h3⟩
        simp [Instr.findAsking, heq, h1]
        omega

theorem flow_law : KeyLaw Tryz.prog 31 Flow.val where
  inj := Flow.val_inj
  check w em k := by
    obtain ⟨a1, a2, a3, a4, a5⟩ := k
    kernel_rfl
  find w k es h := by
    cases es with
    | nil => exact .inl ⟨by simp [Instr.findKey, run_underlying Tryz.underlying31, Instr.findNow], fun _ h => by cases h⟩
    | cons e es =>
      obtain ⟨x, hx⟩ := h e (List.mem_cons_self ..)
      have hnow : Instr.findNow (.struct (Tryz.prog.fieldsOf 31)) k.val (e :: es) 0 = none := by
        simp [Instr.findNow, Instr.sameNow]
      have hf : Tryz.prog.underlying 31 = some (.struct (Tryz.prog.fieldsOf 31)) := by kernel_rfl
      have hr : (Instr.findKey 31 k.val (e :: es)).run Tryz.prog w = (Instr.findAsking 31 k.val (e :: es) 0).run Tryz.prog w := by
        unfold Instr.findKey
        simp only [Sem.run_bind, run_underlying hf, Result.andThen_ok, hnow]
      rw [hr]
      rcases flow_asks w k (e :: es) 0 h with h1 | ⟨j, e', h1, h2, h3⟩
      · exact .inl h1
      · exact .inr ⟨j, e', by simpa using h1, h2, h3⟩
  stays w k := by
    obtain ⟨a1, a2, a3, a4, a5⟩ := k
    simp [Instr.keyThatStays, Flow.val, Instr.sameBits]
end Go.Proofs.YthahlimmmnmniaaGreatDoor

namespace Go.Proofs.YthahlimmmnmniaaGreatDoor
open Go.RowKit Go.Fw

def linkCells (e1 e2 e3 e4 e5 eb el : Int) (a b : Nat) : Array Value :=
  #[.int .i64 e1, .int .u32 e2, .int .u32 e3, .int .i64 e4, .int .i64 e5, .int .i64 eb, .int .i64 el, .pointer (some ⟨a, 0, none⟩), .pointer (some ⟨b, 0, none⟩)]

set_option maxHeartbeats 400000 in
theorem out_walk (l p n : Nat) (vp vn : Value) (w : World) (h7 : w.cell? ⟨l,7,none⟩ = some (.pointer (some ⟨p,0,none⟩))) (h8 : w.cell? ⟨l,8,none⟩ = some (.pointer (some ⟨n,0,none⟩)))
   (hp : w.cell? ⟨p,8,none⟩ = some vp) (hn : w.cell? ⟨n,7,none⟩ = some vn) (fp : w.frozen? ⟨p,8,none⟩ = false) (fn : w.frozen? ⟨n,7,none⟩ = false) :
    Calls Tryz.prog 71 #[.pointer (some ⟨l,0,none⟩)] w fun e w' => e = .returned (.tuple #[]) ∧ w' = ((w.setCell ⟨p,8,none⟩ (.pointer (some ⟨n,0,none⟩))).setCell ⟨n,7,none⟩ (.pointer (some ⟨p,0,none⟩))).drew := by
  go_enter Tryz.func71, Tryz.ntmps71
  go_wp2
  go_region
  all_goals (go_end0; exact ⟨rfl, rfl⟩)

set_option maxHeartbeats 400000 in
theorem time_walk (t : Nat) (n now : Int) (w : World) (h2 : w.cell? ⟨t,2,none⟩ = some (.int .i64 n)) (f2 : w.frozen? ⟨t,2,none⟩ = false) :
    Calls Tryz.prog 69 #[.pointer (some ⟨t,0,none⟩), .int .i64 now] w fun e w' => e = .returned (.tuple #[]) ∧ w' = w.setCell ⟨t,2,none⟩ (.int .i64 (max n now)) := by
  go_enter Tryz.func69, Tryz.ntmps69
  go_wp2
  · go_end0
    exact ⟨rfl, by rw [Int.max_eq_right (by omega)]⟩
  · go_end0
    exact ⟨rfl, by rw [Int.max_eq_left (by omega)]⟩

set_option maxHeartbeats 400000 in
theorem made_walk (t r : Nat) (w : World) (h4 : w.cell? ⟨t,4,none⟩ = some (.pointer (some ⟨r,0,none⟩))) :
    Calls Tryz.prog 42 #[.pointer (some ⟨t,0,none⟩)] w fun e w' => e = .returned (.bool true) ∧ w' = w := by
  go_enter Tryz.func42, Tryz.ntmps42
  go_wp2
  go_ret
  exact ⟨rfl, rfl⟩

set_option maxHeartbeats 400000 in
theorem last_walk (t l r p : Nat) (n : Int) (v6 v7 v8 vp8 : Value) (w : World) (h2 : w.cell? ⟨t,2,none⟩ = some (.int .i64 n)) (h4 : w.cell? ⟨t,4,none⟩ = some (.pointer (some ⟨r,0,none⟩)))
   (l6 : w.cell? ⟨l,6,none⟩ = some v6) (l7 : w.cell? ⟨l,7,none⟩ = some v7) (l8 : w.cell? ⟨l,8,none⟩ = some v8) (r7 : w.cell? ⟨r,7,none⟩ = some (.pointer (some ⟨p,0,none⟩))) (p8 : w.cell? ⟨p,8,none⟩ = some vp8)
   (fl6 : w.frozen? ⟨l,6,none⟩ = false) (fl7 : w.frozen? ⟨l,7,none⟩ = false) (fl8 : w.frozen? ⟨l,8,none⟩ = false) (fr7 : w.frozen? ⟨r,7,none⟩ = false) (fp8 : w.frozen? ⟨p,8,none⟩ = false)
   (hlr : l ≠ r) (hlp : l ≠ p) (htl : t ≠ l) (htr : t ≠ r) (htp : t ≠ p) :
    Calls Tryz.prog 72 #[.pointer (some ⟨t,0,none⟩), .pointer (some ⟨l,0,none⟩)] w fun e w' => e = .returned (.tuple #[]) ∧
      w' = (((((w.setCell ⟨l,6,none⟩ (.int .i64 n)).setCell ⟨l,7,none⟩ (.pointer (some ⟨p,0,none⟩))).setCell ⟨l,8,none⟩ (.pointer (some ⟨r,0,none⟩))).setCell ⟨p,8,none⟩ (.pointer (some ⟨l,0,none⟩))).setCell ⟨r,7,none⟩ (.pointer (some ⟨l,0,none⟩))).drew.drew := by
  go_enter Tryz.func72, Tryz.ntmps72
  go_wp2
  go_region
  all_goals go_wp2
  all_goals go_region
  all_goals (go_end0; exact ⟨rfl, rfl⟩)
end Go.Proofs.YthahlimmmnmniaaGreatDoor

namespace Go.Proofs.YthahlimmmnmniaaGreatDoor
open Go.RowKit Go.Fw

structure Ent where
  flow : Flow
  backend : Int
  last : Int

structure FTab where
  room : Int
  idle : Int
  now : Int
  l : List Ent

def lnk (e : Ent) (a b : Nat) : Array Value := linkCells e.flow.proto e.flow.src e.flow.dst e.flow.sport e.flow.dport e.backend e.last a b
def ptrVal (p : Nat) : Value := .pointer (some ⟨p, 0, none⟩)

theorem set8 {w : World} {q : Nat} {e : Ent} {x y : Nat} (h : w.heap[q]? = some (.cells (lnk e x y) 101 (0, 0))) (a b : Nat) :
    (w.setCell ⟨a, 8, none⟩ (.pointer (some ⟨b, 0, none⟩))).heap[q]? = some (.cells (lnk e x (if q = a then b else y)) 101 (0, 0)) := by
  by_cases hq : q = a
  · subst hq
    rw [heap_set h, if_pos rfl]
    rfl
  · rw [heap_set_ne _ _ _ hq, h, if_neg hq]
theorem set7 {w : World} {q : Nat} {e : Ent} {x y : Nat} (h : w.heap[q]? = some (.cells (lnk e x y) 101 (0, 0))) (a b : Nat) :
    (w.setCell ⟨a, 7, none⟩ (.pointer (some ⟨b, 0, none⟩))).heap[q]? = some (.cells (lnk e (if q = a then b else x) y) 101 (0, 0)) := by
  by_cases hq : q = a
  · subst hq
    rw [heap_set h, if_pos rfl]
    rfl
  · rw [heap_set_ne _ _ _ hq, h, if_neg hq]

structure RingAt (w : World) (r : Nat) (L : List (Nat × Ent)) (nx pv : Nat → Nat) : Prop where
  ring : RingOf nx pv r (L.map Prod.fst)
  link : ∀ x ∈ L, w.heap[x.1]? = some (.cells (lnk x.2 (pv x.1) (nx x.1)) 101 (0, 0))
  root : ∃ e, w.heap[r]? = some (.cells (lnk e (pv r) (nx r)) 101 (0, 0))

theorem RingAt.node {w : World} {r : Nat} {L : List (Nat × Ent)} {nx pv : Nat → Nat} (h : RingAt w r L nx pv) {q : Nat} (hq : q ∈ r :: L.map Prod.fst) : ∃ e, w.heap[q]? = some (.cells (lnk e (pv q) (nx q)) 101 (0, 0)) := by
  rcases List.mem_cons.1 hq with rfl | hq
  · exact h.root
  · obtain ⟨x, hx, rfl⟩ := List.mem_map.1 hq
    exact ⟨x.2, h.link x hx⟩

theorem RingAt.keep {w w' : World} {r : Nat} {L : List (Nat × Ent)} {nx pv : Nat → Nat} (h : RingAt w r L nx pv) (hb : ∀ q ∈ r :: L.map Prod.fst, w'.heap[q]? = w.heap[q]?) : RingAt w' r L nx pv :=
  ⟨h.ring, fun x hx => (hb x.1 (List.mem_cons_of_mem _ (List.mem_map.2 ⟨x, hx, rfl⟩))).trans (h.link x hx), by
    obtain ⟨e, he⟩ := h.root
    exact ⟨e, (hb r (by simp)).trans he⟩⟩

/-- Behind 'out': the ring without p; p's own block as it was. -/
def OutPost (w : World) (r p : Nat) (L L' : List (Nat × Ent)) (w' : World) : Prop :=
  (∃ nx pv, RingAt w' r L' nx pv) ∧ w'.heap[p]? = w.heap[p]? ∧ Fr (r :: L.map Prod.fst) w w' ∧ w'.heap.size = w.heap.size

theorem out_ring {w : World} {r p : Nat} {e : Ent} {xs ys : List (Nat × Ent)} {nx pv : Nat → Nat} (h : RingAt w r (xs ++ (p, e) :: ys) nx pv) :
    Calls Tryz.prog 71 #[.pointer (some ⟨p,0,none⟩)] w fun en w' => en = .returned (.tuple #[]) ∧ OutPost w r p (xs ++ (p, e) :: ys) (xs ++ ys) w' := by
  have hmap : (xs ++ (p, e) :: ys).map Prod.fst = xs.map Prod.fst ++ p :: ys.map Prod.fst := by simp
  have hr := h.ring
  rw [hmap] at hr
  obtain ⟨hr', ha, hb⟩ := ring_out hr
  have hpn : p ∉ r :: (xs.map Prod.fst ++ ys.map Prod.fst) := by
    have h1 := hr.1
    rw [show r :: (xs.map Prod.fst ++ p :: ys.map Prod.fst) = (r :: xs.map Prod.fst) ++ p :: ys.map Prod.fst by simp] at h1
    rw [show r :: (xs.map Prod.fst ++ ys.map Prod.fst) = (r :: xs.map Prod.fst) ++ ys.map Prod.fst by simp]
    have h2 := List.nodup_append.1 h1
    intro hc
    rcases List.mem_append.1 hc with hc | hc
    · exact h2.2.2 p hc p (by simp) rfl
    · exact (List.nodup_cons.1 h2.2.1).1 hc
  have hain : pv p ∈ r :: (xs.map Prod.fst ++ ys.map Prod.fst) := by
    rcases List.mem_cons.1 ha with h1 | h1
    · simp [h1]
    · exact List.mem_cons_of_mem _ (List.mem_append_left _ h1)
  have hbin : nx p ∈ r :: (xs.map Prod.fst ++ ys.map Prod.fst) := by
    rcases List.mem_append.1 hb with h1 | h1
    · exact List.mem_cons_of_mem _ (List.mem_append_right _ h1)
    · simp at h1; simp [h1]
  have hpa : p ≠ pv p := fun e => hpn (by rw [← e] at hain; exact hain)
  have hpb : p ≠ nx p := fun e => hpn (by rw [← e] at hbin; exact hbin)
  have hsub : ∀ q, q ∈ r :: (xs.map Prod.fst ++ ys.map Prod.fst) → q ∈ r :: (xs ++ (p, e) :: ys).map Prod.fst := by
    intro q hq
    rw [hmap]
    simp only [List.mem_cons, List.mem_append] at hq ⊢
    rcases hq with h1 | h1 | h1
    · exact .inl h1
    · exact .inr (.inl h1)
    · exact .inr (.inr (.inr h1))
  have hlp := h.link (p, e) (by simp)
  obtain ⟨ea, hla⟩ := h.node (hsub _ hain)
  obtain ⟨eb, hlb⟩ := h.node (hsub _ hbin)
  generalize hA : pv p = a at *
  generalize hB : nx p = b at *
  refine (out_walk p a b _ _ w (cell_at hlp 7 (by simp [lnk, linkCells])) (cell_at hlp 8 (by simp [lnk, linkCells])) (cell_at hla 8 (by simp [lnk, linkCells]; rfl)) (cell_at hlb 7 (by simp [lnk, linkCells]; rfl)) (free_at hla 8) (free_at hlb 7)).mono ?_
  rintro en w' ⟨rfl, rfl⟩
  have hall : ∀ (q x y : Nat) (e : Ent), w.heap[q]? = some (.cells (lnk e x y) 101 (0, 0)) → ((w.setCell ⟨a, 8, none⟩ (.pointer (some ⟨b, 0, none⟩))).setCell ⟨b, 7, none⟩ (.pointer (some ⟨a, 0, none⟩))).drew.heap[q]? = some (.cells (lnk e (if q = b then a else x) (if q = a then b else y)) 101 (0, 0)) :=
    fun q x y e hq => set7 (set8 hq a b) b a
  refine ⟨rfl, ⟨upd nx a b, upd pv b a, ?_, ?_, ?_⟩, ?_, ?_, ?_⟩
  · simpa using hr'
  · intro x hx
    have hx' : x ∈ xs ++ (p, e) :: ys := by
      rcases List.mem_append.1 hx with h1 | h1
      · exact List.mem_append_left _ h1
      · exact List.mem_append_right _ (List.mem_cons_of_mem _ h1)
    exact hall _ _ _ _ (h.link x hx')
  · obtain ⟨e0, h0⟩ := h.root
    exact ⟨e0, hall _ _ _ _ h0⟩
  · rw [hall _ _ _ _ hlp, if_neg hpb, if_neg hpa, hlp]
  · exact (((Fr.refl _ w).set _ _ (.inl (hsub _ hain))).set _ _ (.inl (hsub _ hbin))).drew
  · simp

theorem last_ring {w : World} {t r p : Nat} {n : Int} {e : Ent} {vx vy : Value} {L : List (Nat × Ent)} {nx pv : Nat → Nat} (h : RingAt w r L nx pv) (hp : w.heap[p]? = some (.cells #[.int .i64 e.flow.proto, .int .u32 e.flow.src, .int .u32 e.flow.dst, .int .i64 e.flow.sport, .int .i64 e.flow.dport, .int .i64 e.backend, .int .i64 e.last, vx, vy] 101 (0, 0)))
    (h2 : w.cell? ⟨t,2,none⟩ = some (.int .i64 n)) (h4 : w.cell? ⟨t,4,none⟩ = some (.pointer (some ⟨r,0,none⟩))) (hpn : p ∉ r :: L.map Prod.fst) (ht : t ∉ p :: r :: L.map Prod.fst) :
    Calls Tryz.prog 72 #[.pointer (some ⟨t,0,none⟩), .pointer (some ⟨p,0,none⟩)] w fun en w' => en = .returned (.tuple #[]) ∧ (∃ nx pv, RingAt w' r (L ++ [(p, { e with last := n })]) nx pv) ∧ Fr (p :: r :: L.map Prod.fst) w w' ∧ w'.heap.size = w.heap.size := by
  obtain ⟨hr', ha⟩ := ring_last h.ring hpn
  obtain ⟨ea, hla⟩ := h.node ha
  obtain ⟨e0, hl0⟩ := h.root
  have hpr : p ≠ r := fun e => hpn (by simp [e])
  have hpa : p ≠ pv r := fun e => hpn (by rw [e]; exact ha)
  have htp : t ≠ p := fun e => ht (by simp [e])
  have htr : t ≠ r := fun e => ht (by simp [e])
  have hta : t ≠ pv r := fun e => ht (by rw [e]; exact List.mem_cons_of_mem _ ha)
  generalize hA : pv r = a at *
  refine (last_walk t p r a n _ _ _ _ w h2 h4 (cell_at hp 6 rfl) (cell_at hp 7 rfl) (cell_at hp 8 rfl) (cell_at hl0 7 (by simp [lnk, linkCells])) (cell_at hla 8 (by simp [lnk, linkCells]; rfl))
    (free_at hp 6) (free_at hp 7) (free_at hp 8) (free_at hl0 7) (free_at hla 8) hpr hpa htp htr hta).mono ?_
  rintro en w' ⟨rfl, rfl⟩
  have hall : ∀ (q x y : Nat) (e : Ent), q ≠ p → w.heap[q]? = some (.cells (lnk e x y) 101 (0, 0)) → ((((((w.setCell ⟨p,6,none⟩ (.int .i64 n)).setCell ⟨p,7,none⟩ (.pointer (some ⟨a,0,none⟩))).setCell ⟨p,8,none⟩ (.pointer (some ⟨r,0,none⟩))).setCell ⟨a,8,none⟩ (.pointer (some ⟨p,0,none⟩))).setCell ⟨r,7,none⟩ (.pointer (some ⟨p,0,none⟩))).drew.drew).heap[q]? = some (.cells (lnk e (if q = r then p else x) (if q = a then p else y)) 101 (0, 0)) := by
    intro q x y e hq hl
    rw [heap_drew, heap_drew]
    have g : (((w.setCell ⟨p,6,none⟩ (.int .i64 n)).setCell ⟨p,7,none⟩ (.pointer (some ⟨a,0,none⟩))).setCell ⟨p,8,none⟩ (.pointer (some ⟨r,0,none⟩))).heap[q]? = some (.cells (lnk e x y) 101 (0, 0)) := by
      rw [heap_set_ne _ _ _ hq, heap_set_ne _ _ _ hq, heap_set_ne _ _ _ hq]
      exact hl
    exact set7 (set8 g a p) r p
  have hmine : ((((((w.setCell ⟨p,6,none⟩ (.int .i64 n)).setCell ⟨p,7,none⟩ (.pointer (some ⟨a,0,none⟩))).setCell ⟨p,8,none⟩ (.pointer (some ⟨r,0,none⟩))).setCell ⟨a,8,none⟩ (.pointer (some ⟨p,0,none⟩))).setCell ⟨r,7,none⟩ (.pointer (some ⟨p,0,none⟩))).drew.drew).heap[p]? = some (.cells (lnk { e with last := n } a r) 101 (0, 0)) := by
    have g1 := heap_set (i := 6) hp (.int .i64 n)
    have g2 := heap_set (i := 7) g1 (.pointer (some ⟨a,0,none⟩))
    have g3 := heap_set (i := 8) g2 (.pointer (some ⟨r,0,none⟩))
    rw [heap_drew, heap_drew, heap_set_ne _ _ _ hpr, heap_set_ne _ _ _ hpa, g3]
    simp [lnk, linkCells]
  refine ⟨rfl, ⟨upd (upd nx p r) a p, upd (upd pv p a) r p, ?_, ?_, ?_⟩, ?_, ?_⟩
  · simpa using hr'
  · intro x hx
    rcases List.mem_append.1 hx with h1 | h1
    · have hxp : x.1 ≠ p := fun e => hpn (by rw [← e]; exact List.mem_cons_of_mem _ (List.mem_map.2 ⟨x, h1, rfl⟩))
      rw [hall _ _ _ _ hxp (h.link x h1)]
      simp [upd, hxp]
    · simp only [List.mem_singleton] at h1
      subst h1
      show _ = some (Obj.cells (lnk { e with last := n } (upd (upd pv p a) r p p) (upd (upd nx p r) a p p)) 101 (0, 0))
      rw [hmine, upd_ne _ hpr, upd_same, upd_ne _ hpa, upd_same]
  · refine ⟨e0, ?_⟩
    rw [hall _ _ _ _ (Ne.symm hpr) hl0]
    simp [upd, Ne.symm hpr]
  · refine ((((((Fr.refl _ w).set _ _ (.inl ?_)).set _ _ (.inl ?_)).set _ _ (.inl ?_)).set _ _ (.inl ?_)).set _ _ (.inl ?_)).drew.drew
    · simp
    · simp
    · simp
    · exact List.mem_cons_of_mem _ ha
    · simp
  · simp
end Go.Proofs.YthahlimmmnmniaaGreatDoor
