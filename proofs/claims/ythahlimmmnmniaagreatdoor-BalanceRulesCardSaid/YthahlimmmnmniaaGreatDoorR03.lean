/- Ranging over a map that stands still: which entries have come, and what comes next. Of no program. No conditions. Sums over the entries of a map that have come so far. Of no program. No conditions. -/
import Derived.Deep.QuietTactic
import Derived.Test.YthahlimmmnmniaaGreatDoorR02
namespace Go.Fw
open Go.RowKit

/-- The iterator in block b has handed out 'seen'. -/
def _root_.Go.World.iput (w : World) (b : Nat) (seen : Array Nat) : World :=
  match w.heap[b]? with
  | some (.mapIter m s _ l) => { w with heap := w.heap.setIfInBounds b (.mapIter m s seen l) }
  | _ => w

section
variable {P : Program} (w : World) (b : Nat) (seen : Array Nat)
theorem heap_iput_ne {k : Nat} (h : k ≠ b) : (w.iput b seen).heap[k]? = w.heap[k]? := by
  unfold World.iput
  split
  · simp [Ne.symm h]
  · rfl
theorem heap_iput {w : World} {b : Nat} {m : Option Nat} {s : Nat} {q : Array Nat} {l : Nat} (h : w.heap[b]? = some (.mapIter m s q l)) (seen : Array Nat) : (w.iput b seen).heap[b]? = some (.mapIter m s seen l) := by
  have hlt := lt_of h
  unfold World.iput
  rw [h]
  simp [hlt]
@[simp] theorem size_iput : (w.iput b seen).heap.size = w.heap.size := by unfold World.iput; split <;> simp
@[simp] theorem cell?_iput (a : Addr) : (w.iput b seen).cell? a = w.cell? a := by
  unfold World.iput
  split
  · rename_i m s q l h
    simp only [World.cell?, Array.getElem?_setIfInBounds]
    by_cases hb : b = a.block
    · subst hb; rw [if_pos rfl, if_pos (lt_of h), h]
    · rw [if_neg hb]
  · rfl
@[simp] theorem frozen?_iput (a : Addr) : (w.iput b seen).frozen? a = w.frozen? a := by
  unfold World.iput
  split
  · rename_i m s q l h
    simp only [World.frozen?, Array.getElem?_setIfInBounds]
    by_cases hb : b = a.block
    · subst hb; rw [if_pos rfl, if_pos (lt_of h), h]
    · rw [if_neg hb]
  · rfl
@[simp] theorem hasMap_iput {α β : Type} {ek : α → Value} {ev : β → Value} {l : List (α × β)} (k : Nat) : HasMap (w.iput b seen) k ek ev l ↔ HasMap w k ek ev l := by
  by_cases hk : k = b
  · subst hk
    unfold World.iput
    split
    · rename_i m s q l' h
      constructor
      · rintro ⟨es, c, h1, _⟩
        simp [lt_of h] at h1
      · rintro ⟨es, c, h1, _⟩
        rw [h] at h1; cases h1
    · exact Iff.rfl
  · exact hasMap_block (heap_iput_ne w b seen hk)
end
theorem Fr.iput {w a : World} {S : List Nat} (h : Fr S a w) (b : Nat) (seen : Array Nat) (hp : b ∈ S ∨ a.heap.size ≤ b) : Fr S a (w.iput b seen) :=
  h.trans (S' := [b]) ⟨by unfold World.iput; split <;> rfl, by unfold World.iput; split <;> rfl, by unfold World.iput; split <;> rfl, by simp, fun k _ hn => heap_iput_ne w b seen (fun e => hn (by simp [e]))⟩
    (fun x hx => by simp only [List.mem_singleton] at hx; subst hx; exact hp)

theorem run_setObj_iter {P : Program} {w : World} {b : Nat} {m : Option Nat} {s : Nat} {q : Array Nat} {l : Nat} (h : w.heap[b]? = some (.mapIter m s q l)) (seen : Array Nat) :
    (setObj b (.mapIter m s seen l)).run P w = .ok () (w.iput b seen) := by
  unfold World.iput
  simp [setObj, Sem.run, h]

/-- The step. -/
theorem run_next' {P : Program} {w : World} (ty : TypeId) {it mb clock : Nat} {seen : Array Nat} {es : Array MapEntry} (hb : w.heap[mb]? = some (.map es clock)) (hi : w.heap[it]? = some (.mapIter (some mb) clock seen clock)) (hold : ∀ x ∈ es.toList, x.born < clock) :
    ((leftOf es seen).size = 0 ∧ (Instr.next (.pointer (some ⟨it, 0, none⟩)) false ty).run P w = .ok (.tuple #[.bool false]) w) ∨
    ∃ e ∈ (leftOf es seen).toList, ∃ n, (Instr.next (.pointer (some ⟨it, 0, none⟩)) false ty).run P w = .ok (.tuple #[.bool true, e.key, e.val]) ((w.drewN n).iput it (seen.push e.born)) := by
  simp only [Instr.next, getObj, Sem.run_bind, Sem.run, hi, hb, Result.andThen, next_test_false seen es clock clock hold (Nat.le_refl _), Bool.false_eq_true, if_false]
  unfold leftOf
  have hmem : ∀ x ∈ (Array.filter (fun e => !seen.contains e.born) es).toList, x.born < clock := fun x hx => hold x (by simp at hx ⊢; exact hx.1)
  generalize Array.filter (fun e => !seen.contains e.born) es = L at hmem ⊢
  have e1 : L.filter (fun x => decide (x.born < clock)) = L := Array.filter_eq_self.2 (fun x hx => by simpa using hmem x (by simpa using hx))
  have e2 : L.filter (fun x => decide (x.born ≥ clock)) = #[] := by
    rw [Array.filter_eq_empty_iff]
    intro x hx
    have := hmem x (by simpa using hx)
    simp
    omega
  simp only [e1, e2, Array.append_empty]
  by_cases h0 : L.size = 0
  · left
    have : L = #[] := Array.eq_empty_of_size_eq_zero h0
    subst this
    refine ⟨rfl, ?_⟩
    simp [choose, Sem.run, Question.forced]
  · right
    have hne : L.isEmpty = false := by simp [Array.isEmpty, h0]
    simp only [hne, Bool.false_eq_true, if_false, Array.empty_append, Array.size_map]
    have hch : ∃ (j n : Nat), j < L.size ∧ (choose (Question.mapNext L.size)).run P w = .ok j (w.drewN n) := by
      by_cases hf : L.size ≤ 1
      · exact ⟨0, 0, by omega, by simp [choose, Sem.run, Question.forced, hf, World.drewN]⟩
      · exact ⟨_, 1, Nat.mod_lt _ (by omega), by
          simp only [choose, Sem.run, Question.forced, decide_eq_true_eq, hf, if_false, Question.cut]
          rfl⟩
    obtain ⟨j, n, hj, hrun⟩ := hch
    refine ⟨L[j], by simp, n, ?_⟩
    have hset := fun s => run_setObj_iter (P := P) (w := w.drewN n) (b := it) hi s
    simp only [hrun, Array.getElem?_map, Array.getElem?_eq_getElem hj, Option.map_some, Sem.run_bind, hset, Result.andThen]
    rfl

theorem run_next {P : Program} {w : World} {it mb clock : Nat} {seen : Array Nat} {es : Array MapEntry} (hb : w.heap[mb]? = some (.map es clock)) (hi : w.heap[it]? = some (.mapIter (some mb) clock seen clock)) (hold : ∀ x ∈ es.toList, x.born < clock) :
    ((leftOf es seen).size = 0 ∧ ∀ ty, (Instr.next (.pointer (some ⟨it, 0, none⟩)) false ty).run P w = .ok (.tuple #[.bool false]) w) ∨
    ∃ e ∈ (leftOf es seen).toList, ∃ n, ∀ ty, (Instr.next (.pointer (some ⟨it, 0, none⟩)) false ty).run P w = .ok (.tuple #[.bool true, e.key, e.val]) ((w.drewN n).iput it (seen.push e.born)) := by
  have hty : ∀ ty, (Instr.next (.pointer (some ⟨it, 0, none⟩)) false ty) = (Instr.next (.pointer (some ⟨it, 0, none⟩)) false 0) := fun _ => rfl
  rcases run_next' (P := P) 0 hb hi hold with ⟨h1, h2⟩ | ⟨e, he, n, h2⟩
  · exact .inl ⟨h1, fun ty => by rw [hty]; exact h2⟩
  · exact .inr ⟨e, he, n, fun ty => by rw [hty]; exact h2⟩

theorem run_entry {P : Program} {w : World} {it mb clock : Nat} {seen : Array Nat} {es : Array MapEntry} {e : MapEntry} (hb : w.heap[mb]? = some (.map es clock)) (hi : w.heap[it]? = some (.mapIter (some mb) clock (seen.push e.born) clock)) (he : e ∈ es.toList) (hn : (es.toList.map (·.born)).Nodup) :
    (Instr.entry (.pointer (some ⟨it, 0, none⟩))).run P w = .ok (.tuple #[e.key, e.val]) w := by
  have hf : es.find? (·.born == e.born) = some e := by rw [← Array.find?_toList]; exact find_born e es.toList hn he
  simp only [Instr.entry, getObj, Sem.run_bind, Sem.run, hi, hb, Result.andThen, Array.back?_push, bne_self_eq_false, Bool.false_eq_true, if_false, hf]
  rfl

theorem run_range {P : Program} {w : World} {t k e : TypeId} {mb : Nat} {es : Array MapEntry} {clock : Nat} (ht : P.underlying t = some (.map k e)) (hb : w.heap[mb]? = some (.map es clock)) :
    (Instr.range t (.map (some mb))).run P w = .ok (.pointer (some ⟨w.heap.size, 0, none⟩)) (w.alloc (.mapIter (some mb) clock #[] clock)) := run_range_map w t k e mb es clock ht hb
end Go.Fw

namespace Go.Fw
open Go.RowKit

/-- The sum over the entries that have come. -/
def sumSeen (f : MapEntry → Int) : List MapEntry → Array Nat → Int
  | [], _ => 0
  | x :: l, seen => (if seen.contains x.born then f x else 0) + sumSeen f l seen

theorem sumSeen_other (f : MapEntry → Int) (seen : Array Nat) (b : Nat) : ∀ (es : List MapEntry), b ∉ es.map (·.born) → sumSeen f es (seen.push b) = sumSeen f es seen
  | [], _ => rfl
  | x :: l, h => by
    have hx : (x.born == b) = false := by
      cases hc : x.born == b with
      | false => rfl
      | true => exact absurd (List.mem_cons.2 (Or.inl (beq_iff_eq.1 hc).symm)) h
    have ih := sumSeen_other f seen b l (fun e => h (List.mem_cons.2 (Or.inr e)))
    simp only [sumSeen, contains_push, hx, Bool.or_false, ih]

theorem sumSeen_push (f : MapEntry → Int) (seen : Array Nat) (e : MapEntry) (hs : seen.contains e.born = false) : ∀ (es : List MapEntry), (es.map (·.born)).Nodup → e ∈ es → sumSeen f es (seen.push e.born) = sumSeen f es seen + f e
  | x :: l, hn, he => by
    have hn' : x.born ∉ l.map (·.born) ∧ (l.map (·.born)).Nodup := List.nodup_cons.1 hn
    rcases List.mem_cons.1 he with rfl | h
    · simp only [sumSeen, contains_push, hs, beq_self_eq_true, Bool.or_true, if_true, Bool.false_eq_true, if_false, sumSeen_other f seen e.born l hn'.1]
      omega
    · have hx : (x.born == e.born) = false := by
        cases hc : x.born == e.born with
        | false => rfl
        | true => exact absurd (by rw [beq_iff_eq.1 hc]; exact List.mem_map.2 ⟨e, h, rfl⟩) hn'.1
      simp only [sumSeen, contains_push, hx, Bool.or_false, sumSeen_push f seen e hs l hn'.2 h]
      omega

theorem sumSeen_none (f : MapEntry → Int) : ∀ (es : List MapEntry), sumSeen f es #[] = 0
  | [] => rfl
  | x :: l => by
    have : (#[] : Array Nat).contains x.born = false := by simp
    simp only [sumSeen, this, Bool.false_eq_true, if_false, sumSeen_none f l]
    rfl

theorem sumSeen_full (f : MapEntry → Int) (seen : Array Nat) : ∀ (es : List MapEntry), (∀ x ∈ es, seen.contains x.born = true) → sumSeen f es seen = (es.map f).sum
  | [], _ => rfl
  | x :: l, h => by
    simp only [sumSeen, h x (List.mem_cons.2 (Or.inl rfl)), if_true, List.map_cons, List.sum_cons, sumSeen_full f seen l (fun y hy => h y (List.mem_cons.2 (Or.inr hy)))]

theorem sumSeen_bd (f : MapEntry → Int) (seen : Array Nat) : ∀ (es : List MapEntry), (∀ x ∈ es, 0 ≤ f x) → 0 ≤ sumSeen f es seen ∧ sumSeen f es seen ≤ (es.map f).sum
  | [], _ => ⟨Int.le_refl _, Int.le_refl _⟩
  | x :: l, h => by
    have ih := sumSeen_bd f seen l (fun y hy => h y (List.mem_cons.2 (Or.inr hy)))
    have hx := h x (List.mem_cons_self ..)
    simp only [sumSeen, List.map_cons, List.sum_cons]
    split <;> omega

theorem sum_le (f : MapEntry → Int) (k : Int) : ∀ (es : List MapEntry), (∀ x ∈ es, f x ≤ k) → (es.map f).sum ≤ k * es.length
  | [], _ => by simp
  | x :: l, h => by
    have ih := sum_le f k l (fun y hy => h y (List.mem_cons.2 (Or.inr hy)))
    have hx := h x (List.mem_cons_self ..)
    simp only [List.map_cons, List.sum_cons, List.length_cons]
    rw [show ((l.length + 1 : Nat) : Int) = (l.length : Int) + 1 by omega, Int.mul_add]
    omega

/-- How many are still to come, by the iterator's block. -/
def _root_.Go.World.toCome (w : World) (it : Nat) (es : Array MapEntry) : Nat := match w.heap[it]? with | some (.mapIter _ _ s _) => (leftOf es s).size | _ => 0
theorem toCome_eq {w : World} {it : Nat} {m : Option Nat} {s l : Nat} {seen : Array Nat} (h : w.heap[it]? = some (.mapIter m s seen l)) (es : Array MapEntry) : w.toCome it es = (leftOf es seen).size := by
  unfold World.toCome; rw [h]
end Go.Fw
