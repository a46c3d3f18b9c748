/- Plain words about memory, of no program: what a block holds, what a map's block reads as, and which blocks a call may turn. No conditions. A ring of links, of no program: which follows which, and what taking one out and laying one behind the last do to that. No conditions. -/
import Derived.WalkKit
import Derived.WalkSpells
import Derived.WalkLawsBesides
import Derived.Lib.Hide
namespace Go.Fw
open Go.RowKit

variable {P : Program} {w w' : World}

/-! ### blocks of cells -/
theorem cell_at {b : Nat} {c : Array Value} {t : TypeId} {f : Nat × Nat} (h : w.heap[b]? = some (.cells c t f)) (i : Nat) {v : Value} (hv : c[i]? = some v) : w.cell? ⟨b, i, none⟩ = some v := by
  simp [World.cell?, h, hv]
theorem free_at {b : Nat} {c : Array Value} {t : TypeId} (h : w.heap[b]? = some (.cells c t (0, 0))) (i : Nat) : w.frozen? ⟨b, i, none⟩ = false := by
  simp [World.frozen?, h]
theorem lt_of {b : Nat} {o : Obj} (h : w.heap[b]? = some o) : b < w.heap.size := by
  rcases Nat.lt_or_ge b w.heap.size with h' | h'
  · exact h'
  · simp [Array.getElem?_eq_none h'] at h

/-- A block that is there stays below the heap's end, in the walk's own spelling. -/
theorem lts {a n : Nat} (h : a < n) : a < n ∧ a < n + 1 ∧ a < n + 1 + 1 ∧ a < n + 1 + 1 + 1 ∧ a < n + 1 + 1 + 1 + 1 ∧ a < n + 1 + 1 + 1 + 1 + 1 := by omega

theorem heap_set {b i : Nat} {c : Array Value} {t : TypeId} {f : Nat × Nat} (h : w.heap[b]? = some (.cells c t f)) (v : Value) :
    (w.setCell ⟨b, i, none⟩ v).heap[b]? = some (.cells (c.setIfInBounds i v) t f) := by
  show (w.heap.modify b _)[b]? = _
  rw [Array.getElem?_modify, if_pos rfl, h]
  rfl
theorem heap_set_ne (w : World) (a : Addr) (v : Value) {k : Nat} (h : k ≠ a.block) : (w.setCell a v).heap[k]? = w.heap[k]? := Below.heap_setCell w a v k h
theorem heap_new (w : World) (o : Obj) : (w.alloc o).heap[w.heap.size]? = some o := by
  show (w.heap.push o)[w.heap.size]? = _
  simp
theorem heap_old (w : World) (o : Obj) {r : Nat} (h : r < w.heap.size) : (w.alloc o).heap[r]? = w.heap[r]? := by
  show (w.heap.push o)[r]? = _
  rw [Array.getElem?_push_lt h, Array.getElem?_eq_getElem h]
theorem heap_alloc_if (w : World) (o : Obj) (k : Nat) : (w.alloc o).heap[k]? = if k = w.heap.size then some o else w.heap[k]? := by
  show (w.heap.push o)[k]? = _
  rw [Array.getElem?_push]
theorem heap_drewN (w : World) (n k : Nat) : (w.drewN n).heap[k]? = w.heap[k]? := rfl
@[simp] theorem size_drewN' (w : World) (n : Nat) : (w.drewN n).heap.size = w.heap.size := rfl
theorem heap_drew (w : World) (k : Nat) : w.drew.heap[k]? = w.heap[k]? := rfl

theorem add_off (b j : Nat) : (⟨b, 0, none⟩ : Addr).add j = ⟨b, j, none⟩ := by
  unfold Addr.add
  split
  · subst j; rfl
  · simp
/-- A block that has just been made holds what it was made of. -/
theorem news_new (w : World) (l : List Value) (T : TypeId) (j : Nat) (u : Value) (h : l[j]? = some u) : (w.alloc (.cells l.toArray T)).cell? ((⟨w.heap.size, 0, none⟩ : Addr).add j) = some u := by
  rw [add_off]
  exact cell_at (heap_new w _) j (by simpa using h)

/-! ### which blocks may have turned -/
/-- Nothing but the blocks of S has turned; new ones may be there; the streams are as they were. -/
structure Fr (S : List Nat) (w w' : World) : Prop where
  os : w'.os = w.os
  tape : w'.tape = w.tape
  output : w'.output = w.output
  size : w.heap.size ≤ w'.heap.size
  block : ∀ k, k < w.heap.size → k ∉ S → w'.heap[k]? = w.heap[k]?

theorem Fr.refl (S : List Nat) (w : World) : Fr S w w := ⟨rfl, rfl, rfl, Nat.le_refl _, fun _ _ _ => rfl⟩
theorem Fr.trans {S S' : List Nat} {a b c : World} (h : Fr S a b) (k : Fr S' b c) (hs : ∀ x ∈ S', x ∈ S ∨ a.heap.size ≤ x) : Fr S a c :=
  ⟨k.os.trans h.os, k.tape.trans h.tape, k.output.trans h.output, Nat.le_trans h.size k.size, fun i hi hn =>
    (k.block i (Nat.lt_of_lt_of_le hi h.size) (fun hx => by rcases hs i hx with h1 | h1; exact hn h1; omega)).trans (h.block i hi hn)⟩
theorem Fr.mono {S S' : List Nat} (h : Fr S w w') (hs : ∀ x ∈ S, x ∈ S' ∨ w.heap.size ≤ x) : Fr S' w w' :=
  ⟨h.os, h.tape, h.output, h.size, fun i hi hn => h.block i hi (fun hx => by rcases hs i hx with h1 | h1; exact hn h1; omega)⟩
theorem Fr.drew {S : List Nat} {a : World} (h : Fr S a w) : Fr S a w.drew := ⟨h.os, h.tape, h.output, h.size, h.block⟩
theorem Fr.drewN {S : List Nat} {a : World} (h : Fr S a w) (n : Nat) : Fr S a (w.drewN n) := ⟨h.os, h.tape, h.output, h.size, h.block⟩
theorem Fr.alloc {S : List Nat} {a : World} (h : Fr S a w) (o : Obj) : Fr S a (w.alloc o) :=
  h.trans (S' := []) ⟨rfl, rfl, rfl, by simp, fun k hk _ => heap_old w o hk⟩ (fun _ hx => by cases hx)
theorem Fr.set {S : List Nat} {a : World} (h : Fr S a w) (p : Addr) (v : Value) (hp : p.block ∈ S ∨ a.heap.size ≤ p.block) : Fr S a (w.setCell p v) :=
  h.trans (S' := [p.block]) ⟨rfl, rfl, rfl, by simp [World.setCell], fun k _ hn => heap_set_ne w p v (fun e => hn (by simp [e]))⟩ (fun x hx => by
    simp only [List.mem_singleton] at hx; subst hx; exact hp)
theorem Fr.of_below (h : Below w.heap.size w w') : Fr [] w w' := ⟨h.os, h.tape, h.output, h.size, fun k hk _ => h.block k hk⟩
theorem Fr.below (h : Fr [] w w') : Below w.heap.size w w' := ⟨h.os, h.tape, h.output, h.size, fun k hk => h.block k hk (by simp)⟩
theorem Fr.grown {S : List Nat} {a : World} {row : Option Nat} (h : Fr S a w) (hg : w.grownBy w' row) (hr : ∀ k, row = some k → k ∈ S ∨ a.heap.size ≤ k) : Fr S a w' :=
  h.trans (S' := row.toList) ⟨hg.os, hg.tape, hg.output, hg.size, fun k hk hn => hg.block k hk (fun e => hn (by simp [← e]))⟩ (fun x hx => hr x (by simpa using hx))
theorem own_base {base e size n : Nat} {v : Value} {xs : List Value} (h : w.ownsRow base e size v n xs) : ∀ k, v.ownBlock = some k → base ≤ k := by
  intro k hk
  rcases h.2 with ⟨rfl, _⟩ | ⟨g, cap, cur, rfl, hb, _⟩
  · cases hk
  · simp [Value.ownBlock] at hk; omega
theorem own_fr {base e size n : Nat} {v : Value} {xs : List Value} {S : List Nat} (h : w.ownsRow base e size v n xs) (hf : Fr S w w') (hS : ∀ k ∈ S, k < base) : w'.ownsRow base e size v n xs := by
  refine ⟨h.1, ?_⟩
  rcases h.2 with h1 | ⟨g, cap, cur, rfl, hb, hg, r⟩
  · exact .inl h1
  · exact .inr ⟨g, cap, cur, rfl, hb, (hf.block g (lt_of hg) (fun hc => by have := hS g hc; omega)).trans hg, r⟩
theorem own_lower {base base' e size n : Nat} {v : Value} {xs : List Value} (h : w.ownsRow base e size v n xs) (hb : base' ≤ base) : w.ownsRow base' e size v n xs := by
  refine ⟨h.1, ?_⟩
  rcases h.2 with h1 | ⟨g, cap, cur, rfl, hb', r⟩
  · exact .inl h1
  · exact .inr ⟨g, cap, cur, rfl, Nat.le_trans hb hb', r⟩
/-- The cells of an owned row. -/
theorem own_cell {base e size n g cap : Nat} {xs : List Value} (h : w.ownsRow base e size (.slice (some ⟨g, 0, none⟩) n cap) n xs) {i : Nat} {x : Value} (hi : xs[i]? = some x) : w.cell? ⟨g, i, none⟩ = some x := by
  rcases h.2 with ⟨h1, _⟩ | ⟨g', cap', cur, h1, hb, hg, r1, r2, r3, r4⟩
  · cases h1
  · cases h1
    have : cur.toList[i]? = some x := by
      rw [← r4, List.getElem?_take] at hi
      split at hi
      · exact hi
      · cases hi
    exact cell_at hg i (by rw [← Array.getElem?_toList]; exact this)
theorem Fr.cell {S : List Nat} (h : Fr S w w') {a : Addr} (hk : a.block < w.heap.size) (hn : a.block ∉ S) : w'.cell? a = w.cell? a := World.cell?_of_block (w := w) (h.block a.block hk hn)
theorem Fr.free {S : List Nat} (h : Fr S w w') {a : Addr} (hk : a.block < w.heap.size) (hn : a.block ∉ S) : w'.frozen? a = w.frozen? a := World.frozen?_of_block (w := w) (h.block a.block hk hn)
theorem Fr.keep {S : List Nat} (h : Fr S w w') {k : Nat} {o : Obj} (hk : w.heap[k]? = some o) (hn : k ∉ S) : w'.heap[k]? = some o := (h.block k (lt_of hk) hn).trans hk

/-! ### maps -/
/-- The entries read as the list l, in the order in which they came. -/
structure Entries {α β : Type} (ek : α → Value) (ev : β → Value) (es : Array MapEntry) (clock : Nat) (l : List (α × β)) : Prop where
  reads : es.toList.map (fun e => (e.key, e.val)) = l.map (fun p => (ek p.1, ev p.2))
  keys : (l.map Prod.fst).Nodup
  born : (es.toList.map (·.born)).Nodup
  lt : ∀ e ∈ es.toList, e.born < clock

def HasMap {α β : Type} (w : World) (b : Nat) (ek : α → Value) (ev : β → Value) (l : List (α × β)) : Prop :=
  ∃ es clock, w.heap[b]? = some (.map es clock) ∧ Entries ek ev es clock l

/-- What the laws on a map want of its keys' type. -/
structure KeyLaw {α : Type} (P : Program) (kt : TypeId) (ek : α → Value) : Prop where
  inj : ∀ a b, ek a = ek b → a = b
  check : ∀ (w : World) (em : Bool) (k : α), (Instr.checkKey em 10000 kt (ek k)).run P w = .ok () w
  find : ∀ (w : World) (k : α) (es : List MapEntry), (∀ e ∈ es, ∃ x, e.key = ek x) →
    ((Instr.findKey kt (ek k) es).run P w = .ok none w ∧ ∀ e ∈ es, e.key ≠ ek k) ∨ ∃ j e, (Instr.findKey kt (ek k) es).run P w = .ok (some (j, e.val)) w ∧ es[j]? = some e ∧ e.key = ek k
  stays : ∀ (w : World) (k : α), (Instr.keyThatStays (ek k) (ek k)).run P w = .ok (ek k) w

section
variable {α β : Type} [DecidableEq α]

/-- What a list of pairs says at a key. -/
def aget (l : List (α × β)) (k : α) : Option β := (l.find? fun p => p.1 = k).map Prod.snd
/-- .. with another value there; a new key behind all others. -/
def aput (l : List (α × β)) (k : α) (v : β) : List (α × β) := if k ∈ l.map Prod.fst then l.map fun p => if p.1 = k then (k, v) else p else l ++ [(k, v)]
/-- .. without it. -/
def adel (l : List (α × β)) (k : α) : List (α × β) := l.filter fun p => p.1 ≠ k

theorem aget_none {l : List (α × β)} {k : α} : aget l k = none ↔ k ∉ l.map Prod.fst := by
  simp only [aget, Option.map_eq_none_iff, List.find?_eq_none, List.mem_map, not_exists, not_and, decide_eq_true_eq]
theorem aget_mem {l : List (α × β)} {k : α} {v : β} (h : aget l k = some v) : (k, v) ∈ l := by
  unfold aget at h
  cases hf : l.find? (fun p => p.1 = k) with
  | none => simp [hf] at h
  | some p =>
    have h1 := List.find?_some hf
    have h2 := List.mem_of_find?_eq_some hf
    simp [hf] at h
    simp at h1
    subst h1; subst h; exact h2
theorem aget_of_mem {l : List (α × β)} {k : α} {v : β} (hn : (l.map Prod.fst).Nodup) (h : (k, v) ∈ l) : aget l k = some v := by
  induction l with
  | nil => cases h
  | cons p l ih =>
    rw [List.map_cons, List.nodup_cons] at hn
    rcases List.mem_cons.1 h with rfl | h
    · simp [aget]
    · have hne : p.1 ≠ k := fun e => hn.1 (e ▸ List.mem_map.2 ⟨_, h, rfl⟩)
      have := ih hn.2 h
      simpa [aget, List.find?_cons, hne] using this

theorem keys_aput (l : List (α × β)) (k : α) (v : β) : (aput l k v).map Prod.fst = if k ∈ l.map Prod.fst then l.map Prod.fst else l.map Prod.fst ++ [k] := by
  unfold aput
  split
  · rw [List.map_map]
    refine List.map_congr_left fun p _ => ?_
    simp only [Function.comp]
    split
    · simp [*]
    · rfl
  · simp
theorem nodup_aput {l : List (α × β)} (h : (l.map Prod.fst).Nodup) (k : α) (v : β) : ((aput l k v).map Prod.fst).Nodup := by
  rw [keys_aput]
  split
  · exact h
  · rename_i hk
    rw [List.nodup_append]
    exact ⟨h, by simp, fun a ha b hb => by simp at hb; subst hb; exact fun e => hk (e ▸ ha)⟩
theorem nodup_adel {l : List (α × β)} (h : (l.map Prod.fst).Nodup) (k : α) : ((adel l k).map Prod.fst).Nodup :=
  List.Nodup.sublist (List.Sublist.map _ List.filter_sublist) h
theorem mem_adel {l : List (α × β)} {k : α} {p : α × β} : p ∈ adel l k ↔ p ∈ l ∧ p.1 ≠ k := by simp [adel]
theorem mem_aput {l : List (α × β)} {k : α} {v : β} {p : α × β} : p ∈ aput l k v ↔ p = (k, v) ∨ (p ∈ l ∧ p.1 ≠ k) := by
  unfold aput
  split
  · rename_i hk
    constructor
    · intro h
      obtain ⟨q, hq, rfl⟩ := List.mem_map.1 h
      split
      · exact .inl rfl
      · rename_i h'; exact .inr ⟨hq, h'⟩
    · rintro (rfl | ⟨h1, h2⟩)
      · obtain ⟨q, hq, hk'⟩ := List.mem_map.1 hk
        exact List.mem_map.2 ⟨q, hq, by simp [hk']⟩
      · exact List.mem_map.2 ⟨p, h1, by simp [h2]⟩
  · rename_i hk
    rw [List.mem_append, List.mem_singleton]
    constructor
    · rintro (h | h)
      · exact .inr ⟨h, fun e => hk (e ▸ List.mem_map.2 ⟨p, h, rfl⟩)⟩
      · exact .inl h
    · rintro (h | h)
      · exact .inr h
      · exact .inl h.1
theorem aget_aput {l : List (α × β)} (h : (l.map Prod.fst).Nodup) (k : α) (v : β) (k' : α) : aget (aput l k v) k' = if k' = k then some v else aget l k' := by
  split
  · subst k'
    exact aget_of_mem (nodup_aput h k v) (mem_aput.2 (.inl rfl))
  · rename_i hne
    cases hg : aget l k' with
    | none =>
      rw [aget_none, keys_aput]
      rw [aget_none] at hg
      split
      · exact hg
      · simp only [List.mem_append, List.mem_singleton, not_or]
        exact ⟨hg, hne⟩
    | some x => exact aget_of_mem (nodup_aput h k v) (mem_aput.2 (.inr ⟨aget_mem hg, hne⟩))
theorem aget_adel {l : List (α × β)} (h : (l.map Prod.fst).Nodup) (k k' : α) : aget (adel l k) k' = if k' = k then none else aget l k' := by
  split
  · subst k'
    rw [aget_none]
    intro hc
    obtain ⟨p, hp, he⟩ := List.mem_map.1 hc
    exact (mem_adel.1 hp).2 he
  · rename_i hne
    cases hg : aget l k' with
    | none =>
      rw [aget_none] at hg ⊢
      intro hc
      obtain ⟨p, hp, he⟩ := List.mem_map.1 hc
      exact hg (List.mem_map.2 ⟨p, (mem_adel.1 hp).1, he⟩)
    | some x => exact aget_of_mem (nodup_adel h k) (mem_adel.2 ⟨aget_mem hg, hne⟩)
end

/-! the world behind a store, and behind a delete, written out -/
open Classical in
/-- The entries behind a store. -/
noncomputable def putEntries (es : Array MapEntry) (clock : Nat) (key val : Value) : Array MapEntry × Nat :=
  match es.toList.findIdx? (fun e => decide (e.key = key)) with
  | some i => (es.modify i fun e => { e with key, val := val }, clock)
  | none => (es.push { key, val := val, born := clock }, clock + 1)
open Classical in
noncomputable def delEntries (es : Array MapEntry) (key : Value) : Array MapEntry :=
  match es.toList.findIdx? (fun e => decide (e.key = key)) with
  | some i => es.eraseIdxIfInBounds i
  | none => es
noncomputable def _root_.Go.World.mput (w : World) (b : Nat) (key val : Value) : World :=
  match w.heap[b]? with
  | some (.map es clock) => { w with heap := w.heap.setIfInBounds b (.map (putEntries es clock key val).1 (putEntries es clock key val).2) }
  | _ => w
noncomputable def _root_.Go.World.mdel (w : World) (b : Nat) (key : Value) : World :=
  match w.heap[b]? with
  | some (.map es clock) => { w with heap := w.heap.setIfInBounds b (.map (delEntries es key) clock) }
  | _ => w

theorem heap_mput_ne (w : World) (b : Nat) (key val : Value) {k : Nat} (h : k ≠ b) : (w.mput b key val).heap[k]? = w.heap[k]? := by
  unfold World.mput
  split
  · simp [Ne.symm h]
  · rfl
theorem heap_mdel_ne (w : World) (b : Nat) (key : Value) {k : Nat} (h : k ≠ b) : (w.mdel b key).heap[k]? = w.heap[k]? := by
  unfold World.mdel
  split
  · simp [Ne.symm h]
  · rfl
@[simp] theorem size_mput (w : World) (b : Nat) (key val : Value) : (w.mput b key val).heap.size = w.heap.size := by
  unfold World.mput; split <;> simp
@[simp] theorem size_mdel (w : World) (b : Nat) (key : Value) : (w.mdel b key).heap.size = w.heap.size := by
  unfold World.mdel; split <;> simp
@[simp] theorem cell?_mput (w : World) (b : Nat) (key val : Value) (a : Addr) : (w.mput b key val).cell? a = w.cell? a := by
  unfold World.mput
  split
  · rename_i es clock h
    simp only [World.cell?, Array.getElem?_setIfInBounds]
    by_cases hb : b = a.block
    · subst hb; rw [if_pos rfl, if_pos (lt_of h), h]
    · rw [if_neg hb]
  · rfl
@[simp] theorem cell?_mdel (w : World) (b : Nat) (key : Value) (a : Addr) : (w.mdel b key).cell? a = w.cell? a := by
  unfold World.mdel
  split
  · rename_i es clock h
    simp only [World.cell?, Array.getElem?_setIfInBounds]
    by_cases hb : b = a.block
    · subst hb; rw [if_pos rfl, if_pos (lt_of h), h]
    · rw [if_neg hb]
  · rfl
@[simp] theorem frozen?_mput (w : World) (b : Nat) (key val : Value) (a : Addr) : (w.mput b key val).frozen? a = w.frozen? a := by
  unfold World.mput
  split
  · rename_i es clock h
    simp only [World.frozen?, Array.getElem?_setIfInBounds]
    by_cases hb : b = a.block
    · subst hb; rw [if_pos rfl, if_pos (lt_of h), h]
    · rw [if_neg hb]
  · rfl
@[simp] theorem frozen?_mdel (w : World) (b : Nat) (key : Value) (a : Addr) : (w.mdel b key).frozen? a = w.frozen? a := by
  unfold World.mdel
  split
  · rename_i es clock h
    simp only [World.frozen?, Array.getElem?_setIfInBounds]
    by_cases hb : b = a.block
    · subst hb; rw [if_pos rfl, if_pos (lt_of h), h]
    · rw [if_neg hb]
  · rfl
theorem Fr.mput {S : List Nat} {a : World} (h : Fr S a w) (b : Nat) (key val : Value) (hp : b ∈ S ∨ a.heap.size ≤ b) : Fr S a (w.mput b key val) :=
  h.trans (S' := [b]) ⟨by unfold World.mput; split <;> rfl, by unfold World.mput; split <;> rfl, by unfold World.mput; split <;> rfl, by simp, fun k _ hn => heap_mput_ne w b key val (fun e => hn (by simp [e]))⟩
    (fun x hx => by simp only [List.mem_singleton] at hx; subst hx; exact hp)
theorem Fr.mdel {S : List Nat} {a : World} (h : Fr S a w) (b : Nat) (key : Value) (hp : b ∈ S ∨ a.heap.size ≤ b) : Fr S a (w.mdel b key) :=
  h.trans (S' := [b]) ⟨by unfold World.mdel; split <;> rfl, by unfold World.mdel; split <;> rfl, by unfold World.mdel; split <;> rfl, by simp, fun k _ hn => heap_mdel_ne w b key (fun e => hn (by simp [e]))⟩
    (fun x hx => by simp only [List.mem_singleton] at hx; subst hx; exact hp)

section
variable {α β : Type} {ek : α → Value} {ev : β → Value} {l : List (α × β)} {b : Nat}

theorem HasMap.lt (h : HasMap w b ek ev l) : b < w.heap.size := by obtain ⟨_, _, hb, _⟩ := h; exact lt_of hb
theorem HasMap.of_block (h : HasMap w b ek ev l) (hb : w'.heap[b]? = w.heap[b]?) : HasMap w' b ek ev l := by
  obtain ⟨es, c, h1, h2⟩ := h; exact ⟨es, c, hb.trans h1, h2⟩
theorem HasMap.keep {S : List Nat} (h : HasMap w b ek ev l) (hf : Fr S w w') (hn : b ∉ S) : HasMap w' b ek ev l := h.of_block (hf.block b h.lt hn)
@[simp] theorem hasMap_drew : HasMap w.drew b ek ev l ↔ HasMap w b ek ev l := Iff.rfl
@[simp] theorem hasMap_drewN (n : Nat) : HasMap (w.drewN n) b ek ev l ↔ HasMap w b ek ev l := Iff.rfl
theorem hasMap_block (h : w'.heap[b]? = w.heap[b]?) : HasMap w' b ek ev l ↔ HasMap w b ek ev l := ⟨fun k => k.of_block h.symm, fun k => k.of_block h⟩
theorem hasMap_alloc_not (o : Obj) (ho : ∀ es c, o ≠ .map es c) : HasMap (w.alloc o) b ek ev l ↔ HasMap w b ek ev l := by
  rcases Nat.lt_trichotomy b w.heap.size with h | h | h
  · exact hasMap_block (heap_old w o h)
  · subst h
    constructor
    · rintro ⟨es, c, h1, _⟩
      rw [heap_new] at h1
      exact absurd (Option.some.inj h1) (ho es c)
    · intro h; exact absurd h.lt (Nat.lt_irrefl _)
  · constructor
    · intro h'
      have := h'.lt
      simp at this
      omega
    · intro h'
      have := h'.lt
      omega
@[simp] theorem hasMap_alloc_cells (c : Array Value) (t : TypeId) (f : Nat × Nat) : HasMap (w.alloc (.cells c t f)) b ek ev l ↔ HasMap w b ek ev l := hasMap_alloc_not _ (fun _ _ h => by cases h)
@[simp] theorem hasMap_alloc_iter (a : Option Nat) (s : Nat) (q : Array Nat) (c : Nat) : HasMap (w.alloc (.mapIter a s q c)) b ek ev l ↔ HasMap w b ek ev l := hasMap_alloc_not _ (fun _ _ h => by cases h)
@[simp] theorem hasMap_alloc (o : Obj) (h : b < w.heap.size) : HasMap (w.alloc o) b ek ev l ↔ HasMap w b ek ev l := hasMap_block (heap_old w o h)
@[simp] theorem hasMap_setCell (a : Addr) (v : Value) : HasMap (w.setCell a v) b ek ev l ↔ HasMap w b ek ev l := by
  by_cases hb : b = a.block
  · subst hb
    constructor
    · rintro ⟨es, c, h1, h2⟩
      refine ⟨es, c, ?_, h2⟩
      simp only [World.setCell, Array.getElem?_modify, if_true] at h1
      cases ho : w.heap[a.block]? with
      | none => simp [ho] at h1
      | some o => cases o <;> simp [ho] at h1 ⊢ ; exact h1
    · rintro ⟨es, c, h1, h2⟩
      refine ⟨es, c, ?_, h2⟩
      simp only [World.setCell, Array.getElem?_modify, if_true, h1]
      rfl
  · exact hasMap_block (heap_set_ne w a v hb)
@[simp] theorem hasMap_mput (b' : Nat) (key val : Value) (h : b ≠ b') : HasMap (w.mput b' key val) b ek ev l ↔ HasMap w b ek ev l := hasMap_block (heap_mput_ne w b' key val h)
@[simp] theorem hasMap_mdel (b' : Nat) (key : Value) (h : b ≠ b') : HasMap (w.mdel b' key) b ek ev l ↔ HasMap w b ek ev l := hasMap_block (heap_mdel_ne w b' key h)
theorem hasMap_new (w : World) (ek : α → Value) (ev : β → Value) : HasMap (w.alloc (.map #[] 0)) w.heap.size ek ev [] :=
  ⟨#[], 0, heap_new w _, ⟨rfl, List.nodup_nil, List.nodup_nil, fun _ h => by cases h⟩⟩

variable [DecidableEq α] {kt et t : TypeId}

omit [DecidableEq α] in
theorem Entries.keyOf {es : Array MapEntry} {clock : Nat} (h : Entries ek ev es clock l) : ∀ e ∈ es.toList, ∃ x, e.key = ek x := fun e he => by
  have : (e.key, e.val) ∈ l.map (fun p => (ek p.1, ev p.2)) := h.reads ▸ List.mem_map.2 ⟨e, he, rfl⟩
  obtain ⟨p, _, hp⟩ := List.mem_map.1 this
  exact ⟨p.1, (Prod.mk.inj hp).1.symm⟩

omit [DecidableEq α] in
theorem Entries.size {es : Array MapEntry} {clock : Nat} (h : Entries ek ev es clock l) : es.size = l.length := by
  have := congrArg List.length h.reads; simpa using this

omit [DecidableEq α] in
/-- The j-th entry is the j-th pair. -/
theorem Entries.at {es : Array MapEntry} {clock : Nat} (h : Entries ek ev es clock l) {j : Nat} {e : MapEntry} (he : es.toList[j]? = some e) : ∃ p, l[j]? = some p ∧ e.key = ek p.1 ∧ e.val = ev p.2 := by
  have h1 : (es.toList.map (fun e => (e.key, e.val)))[j]? = some (e.key, e.val) := by simp [he]
  rw [h.reads, List.getElem?_map] at h1
  cases hp : l[j]? with
  | none => simp [hp] at h1
  | some p => simp [hp] at h1; exact ⟨p, rfl, h1.1.symm, h1.2.symm⟩

theorem nodup_getElem?_eq {γ : Type} {xs : List γ} (h : xs.Nodup) {i j : Nat} {x : γ} (hi : xs[i]? = some x) (hj : xs[j]? = some x) : i = j := by
  obtain ⟨h1, h2⟩ := List.getElem?_eq_some_iff.1 hi
  obtain ⟨h3, h4⟩ := List.getElem?_eq_some_iff.1 hj
  exact (List.getElem_inj h).1 (h2.trans h4.symm)

/-- 'x := m[k]' -/
theorem HasMap.lookup (L : KeyLaw P kt ek) (ht : P.underlying t = some (.map kt et)) {z : Value} (hz : ∀ w, (zeroValue et).run P w = .ok z w) (k : α) (h : HasMap w b ek ev l) (ok : Bool) :
    (Instr.lookup t (.map (some b)) (ek k) ok).run P w = .ok (if ok then .tuple #[((aget l k).map ev).getD z, .bool (aget l k).isSome] else ((aget l k).map ev).getD z) w := by
  obtain ⟨es, clock, hb, E⟩ := h
  have hfind : ∃ r, (Instr.findKey kt (ek k) es.toList).run P w = .ok r w ∧ (r = none ∧ aget l k = none ∨ ∃ j v, r = some (j, ev v) ∧ aget l k = some v) := by
    rcases L.find w k es.toList E.keyOf with ⟨hr, hne⟩ | ⟨j, e, hr, hj, he⟩
    · refine ⟨none, hr, .inl ⟨rfl, ?_⟩⟩
      rw [aget_none]
      intro hc
      obtain ⟨p, hp, hpk⟩ := List.mem_map.1 hc
      have : (ek p.1, ev p.2) ∈ es.toList.map (fun e => (e.key, e.val)) := E.reads ▸ List.mem_map.2 ⟨p, hp, rfl⟩
      obtain ⟨e, he, hek⟩ := List.mem_map.1 this
      exact hne e he ((Prod.mk.inj hek).1.trans (by rw [hpk]))
    · obtain ⟨p, hp, hk, hv⟩ := E.at hj
      refine ⟨_, hr, .inr ⟨j, p.2, by rw [hv], ?_⟩⟩
      have : p.1 = k := L.inj _ _ (hk.symm.trans he)
      exact aget_of_mem E.keys (by rw [← this]; exact List.mem_of_getElem? hp)
  obtain ⟨r, hr, hc⟩ := hfind
  rcases hc with ⟨rfl, hg⟩ | ⟨j, v, rfl, hg⟩
  · simp [Instr.lookup, run_underlying ht, MapKept.run_getObj_map hb, L.check, hr, hz, hg]
  · simp [Instr.lookup, run_underlying ht, MapKept.run_getObj_map hb, L.check, hr, hg]

omit [DecidableEq α] in
open Classical in
theorem findIdx_none {es : List MapEntry} {key : Value} (h : ∀ e ∈ es, e.key ≠ key) : es.findIdx? (fun e => decide (e.key = key)) = none := by
  rw [List.findIdx?_eq_none_iff]
  intro e he; simp [h e he]

omit [DecidableEq α] in
open Classical in
theorem findIdx_some {es : List MapEntry} {key : Value} (hn : (es.map (·.key)).Nodup) {j : Nat} {e : MapEntry} (hj : es[j]? = some e) (he : e.key = key) : es.findIdx? (fun e => decide (e.key = key)) = some j := by
  cases hf : es.findIdx? (fun e => decide (e.key = key)) with
  | none =>
    rw [List.findIdx?_eq_none_iff] at hf
    have := hf e (List.mem_of_getElem? hj)
    simp [he] at this
  | some i =>
    rw [List.findIdx?_eq_some_iff_getElem] at hf
    obtain ⟨hi, h1, _⟩ := hf
    have h2 : (es.map (·.key))[i]? = some key := by simp [List.getElem?_eq_getElem hi]; simpa using h1
    have h3 : (es.map (·.key))[j]? = some key := by simp [hj, he]
    rw [nodup_getElem?_eq hn h2 h3]

theorem map_eraseIdx' {γ δ : Type} (f : γ → δ) : ∀ (l : List γ) (j : Nat), (l.eraseIdx j).map f = (l.map f).eraseIdx j
  | [], _ => by simp
  | _ :: _, 0 => by simp
  | _ :: l, j + 1 => by simp [map_eraseIdx' f l j]

omit [DecidableEq α] in
theorem Entries.keysNodup {es : Array MapEntry} {clock : Nat} (E : Entries ek ev es clock l) (inj : ∀ a b, ek a = ek b → a = b) : (es.toList.map (·.key)).Nodup := by
  have : es.toList.map (·.key) = (l.map Prod.fst).map ek := by
    have := congrArg (List.map Prod.fst) E.reads
    simpa [List.map_map, Function.comp_def] using this
  rw [this]
  exact List.Pairwise.map ek (fun a b h he => h (inj a b he)) E.keys

omit [DecidableEq α] in
/-- 'm[k] = v' -/
theorem HasMap.update (L : KeyLaw P kt ek) (ht : P.underlying t = some (.map kt et)) (k : α) (v : Value) (h : HasMap w b ek ev l) :
    (Instr.mapUpdate t (.map (some b)) (ek k) v).run P w = .ok () (w.mput b (ek k) v) := by
  obtain ⟨es, clock, hb, E⟩ := h
  have hs : ∀ o, (setObj b o).run P w = .ok () { w with heap := w.heap.setIfInBounds b o } := fun o => MapKept.run_setObj_map o hb
  rcases L.find w k es.toList E.keyOf with ⟨hr, hne⟩ | ⟨j, e, hr, hj, he⟩
  · simp [Instr.mapUpdate, run_underlying ht, MapKept.run_getObj_map hb, L.check, hr, hs, World.mput, hb, putEntries, findIdx_none hne]
  · have hj' : es[j]? = some e := by simpa using hj
    simp [Instr.mapUpdate, run_underlying ht, MapKept.run_getObj_map hb, L.check, hr, hs, World.mput, hb, putEntries, findIdx_some (E.keysNodup L.inj) hj he, hj', he, L.stays]

/-- .. and what the map reads as behind it. -/
theorem HasMap.put (inj : ∀ a b, ek a = ek b → a = b) (k : α) (v : β) (h : HasMap w b ek ev l) : HasMap (w.mput b (ek k) (ev v)) b ek ev (aput l k v) := by
  obtain ⟨es, clock, hb, E⟩ := h
  have hlt := lt_of hb
  refine ⟨(putEntries es clock (ek k) (ev v)).1, (putEntries es clock (ek k) (ev v)).2, ?_, ?_⟩
  · unfold World.mput; rw [hb]; simp [hlt]
  · by_cases hk : k ∈ l.map Prod.fst
    · obtain ⟨p, hp, rfl⟩ := List.mem_map.1 hk
      obtain ⟨j, hj⟩ := List.mem_iff_getElem?.1 hp
      obtain ⟨e, he⟩ : ∃ e, es.toList[j]? = some e := by
        have : j < es.toList.length := by
          have := (List.getElem?_eq_some_iff.1 hj).1
          rw [Array.length_toList, E.size]; exact this
        exact ⟨_, List.getElem?_eq_getElem this⟩
      obtain ⟨q, hq, hkq, hvq⟩ := E.at he
      obtain rfl : q = p := by rw [hj] at hq; exact (Option.some.inj hq).symm
      have hf := findIdx_some (E.keysNodup inj) he hkq
      have hput : putEntries es clock (ek q.1) (ev v) = (es.modify j fun e => { e with key := ek q.1, val := ev v }, clock) := by
        unfold putEntries; rw [hf]
      rw [hput]
      have hmod : (es.modify j fun e => { e with key := ek q.1, val := ev v }).toList = es.toList.modify j (fun e => { e with key := ek q.1, val := ev v }) := by simp
      refine ⟨?_, nodup_aput E.keys _ _, ?_, ?_⟩
      · rw [hmod]
        apply List.ext_getElem?
        intro i
        have hi : (es.toList.map (fun e => (e.key, e.val)))[i]? = (l.map (fun p => (ek p.1, ev p.2)))[i]? := by rw [E.reads]
        simp only [List.getElem?_map, List.getElem?_modify] at hi ⊢
        unfold aput
        rw [if_pos hk]
        simp only [List.getElem?_map]
        by_cases hij : j = i
        · subst hij
          simp [he, hj]
        · simp only [if_neg hij]
          cases hl : l[i]? with
          | none => simp [hl] at hi ⊢; exact hi
          | some p' =>
            have hne : p'.1 ≠ q.1 := by
              intro e1
              have h1 : (l.map Prod.fst)[i]? = some q.1 := by simp [hl, e1]
              have h2 : (l.map Prod.fst)[j]? = some q.1 := by simp [hj]
              exact hij (nodup_getElem?_eq E.keys h2 h1)
            simp [hl] at hi ⊢
            simp only [if_neg hne]
            exact hi
      · have : (es.toList.modify j (fun e => { e with key := ek q.1, val := ev v })).map (·.born) = es.toList.map (·.born) := by
          apply List.ext_getElem?
          intro i
          simp only [List.getElem?_map, List.getElem?_modify]
          split
          · cases es.toList[i]? <;> rfl
          · cases es.toList[i]? <;> rfl
        rw [hmod, this]
        exact E.born
      · rw [hmod]
        intro x hx
        obtain ⟨i, hi⟩ := List.mem_iff_getElem?.1 hx
        rw [List.getElem?_modify] at hi
        cases hy : es.toList[i]? with
        | none => simp [hy] at hi
        | some y =>
          have hlt := E.lt y (List.mem_of_getElem? hy)
          simp [hy] at hi
          split at hi <;> subst hi <;> exact hlt
    · have hne : ∀ e ∈ es.toList, e.key ≠ ek k := by
        intro e he hc
        obtain ⟨j, hj⟩ := List.mem_iff_getElem?.1 he
        obtain ⟨p, hp, hkp, _⟩ := E.at hj
        have := inj _ _ (hkp.symm.trans hc)
        exact hk (this ▸ List.mem_map.2 ⟨p, List.mem_of_getElem? hp, rfl⟩)
      have hput : putEntries es clock (ek k) (ev v) = (es.push { key := ek k, val := ev v, born := clock }, clock + 1) := by
        unfold putEntries; rw [findIdx_none hne]
      rw [hput]
      refine ⟨?_, nodup_aput E.keys _ _, ?_, ?_⟩
      · unfold aput
        rw [if_neg hk]
        simp [E.reads]
      · simp only [Array.toList_push, List.map_append, List.map_cons, List.map_nil]
        rw [List.nodup_append]
        refine ⟨E.born, by simp, fun a ha b hb => ?_⟩
        obtain ⟨x, hx, rfl⟩ := List.mem_map.1 ha
        simp at hb
        subst hb
        exact fun h => by have := E.lt x hx; omega
      · intro x hx
        simp only [Array.toList_push, List.mem_append, List.mem_singleton] at hx
        rcases hx with hx | rfl
        · have := E.lt x hx; show x.born < clock + 1; omega
        · show clock < clock + 1; omega

omit [DecidableEq α] in
/-- 'delete(m, k)' -/
theorem HasMap.delete {rt : TypeId} {ats : Array TypeId} (L : KeyLaw P kt ek) (ht : P.underlying t = some (.map kt et)) (k : α) (h : HasMap w b ek ev l) (h0 : ats[0]? = some t) :
    (Builtin.delete_ ats rt #[.map (some b), ek k]).run P w = .ok (.tuple #[]) (w.mdel b (ek k)) := by
  obtain ⟨es, clock, hb, E⟩ := h
  have hs : ∀ o, (setObj b o).run P w = .ok () { w with heap := w.heap.setIfInBounds b o } := fun o => MapKept.run_setObj_map o hb
  rcases L.find w k es.toList E.keyOf with ⟨hr, hne⟩ | ⟨j, e, hr, hj, he⟩
  · simp [Builtin.delete_, h0, run_underlying ht, MapKept.run_getObj_map hb, L.check, hr, hs, World.mdel, hb, delEntries, findIdx_none hne]
  · simp [Builtin.delete_, h0, run_underlying ht, MapKept.run_getObj_map hb, L.check, hr, hs, World.mdel, hb, delEntries, findIdx_some (E.keysNodup L.inj) hj he]

theorem HasMap.del (inj : ∀ a b, ek a = ek b → a = b) (k : α) (h : HasMap w b ek ev l) : HasMap (w.mdel b (ek k)) b ek ev (adel l k) := by
  obtain ⟨es, clock, hb, E⟩ := h
  have hlt := lt_of hb
  refine ⟨delEntries es (ek k), clock, ?_, ?_⟩
  · unfold World.mdel; rw [hb]; simp [hlt]
  · by_cases hk : k ∈ l.map Prod.fst
    · obtain ⟨p, hp, rfl⟩ := List.mem_map.1 hk
      obtain ⟨j, hj⟩ := List.mem_iff_getElem?.1 hp
      have hjl : j < es.toList.length := by
        have := (List.getElem?_eq_some_iff.1 hj).1
        rw [Array.length_toList, E.size]; exact this
      obtain ⟨e, he⟩ : ∃ e, es.toList[j]? = some e := ⟨_, List.getElem?_eq_getElem hjl⟩
      obtain ⟨q, hq, hkq, hvq⟩ := E.at he
      obtain rfl : q = p := by rw [hj] at hq; exact (Option.some.inj hq).symm
      have hf := findIdx_some (E.keysNodup inj) he hkq
      have hdel : (delEntries es (ek q.1)).toList = es.toList.eraseIdx j := by
        unfold delEntries; rw [hf]; simp
      have hl : adel l q.1 = l.eraseIdx j := by
        have hn := E.keys
        clear E hb hf hdel he hjl hkq hvq hq hp hk
        induction l generalizing j with
        | nil => cases hj
        | cons x l ih =>
          rw [List.map_cons, List.nodup_cons] at hn
          cases j with
          | zero =>
            simp at hj; subst hj
            have : adel l x.1 = l := by
              unfold adel
              rw [List.filter_eq_self]
              intro y hy
              simp
              exact fun e => hn.1 (e ▸ List.mem_map.2 ⟨y, hy, rfl⟩)
            show (x :: l).filter _ = l
            rw [List.filter_cons_of_neg (by simp)]
            exact this
          | succ j =>
            simp at hj
            have hne : x.1 ≠ q.1 := fun e => hn.1 (e ▸ List.mem_map.2 ⟨q, List.mem_of_getElem? hj, rfl⟩)
            show (x :: l).filter _ = x :: l.eraseIdx j
            rw [List.filter_cons_of_pos (by simp [hne]), ← ih j hj hn.2]
            rfl
      refine ⟨?_, nodup_adel E.keys _, ?_, ?_⟩
      · rw [hdel, hl, map_eraseIdx', map_eraseIdx', E.reads]
      · rw [hdel, map_eraseIdx']
        exact E.born.sublist (List.eraseIdx_sublist _ _)
      · rw [hdel]
        intro x hx
        exact E.lt x ((List.eraseIdx_sublist _ _).subset hx)
    · have hne : ∀ e ∈ es.toList, e.key ≠ ek k := by
        intro e he hc
        obtain ⟨j, hj⟩ := List.mem_iff_getElem?.1 he
        obtain ⟨p, hp, hkp, _⟩ := E.at hj
        have := inj _ _ (hkp.symm.trans hc)
        exact hk (this ▸ List.mem_map.2 ⟨p, List.mem_of_getElem? hp, rfl⟩)
      have hdel : delEntries es (ek k) = es := by unfold delEntries; rw [findIdx_none hne]
      have hl : adel l k = l := by
        unfold adel
        rw [List.filter_eq_self]
        intro y hy
        simp
        exact fun e => hk (e ▸ List.mem_map.2 ⟨y, hy, rfl⟩)
      rw [hdel, hl]
      exact E

omit [DecidableEq α] in
theorem HasMap.len {rt : TypeId} {ats : Array TypeId} (ht : P.underlying t = some (.map kt et)) (h : HasMap w b ek ev l) (h0 : ats[0]? = some t) :
    (Builtin.len_ ats rt #[.map (some b)]).run P w = .ok (.int .i64 l.length) w := by
  obtain ⟨es, clock, hb, E⟩ := h
  simp [Builtin.len_, h0, run_underlying ht, MapKept.run_getObj_map hb, goInt, E.size]
end
theorem findNow_int {q : IntKind} (k : Int) : ∀ (es : List MapEntry) (i : Nat), (∀ e ∈ es, ∃ x, e.key = .int q x) →
    (Instr.findNow (.int q) (.int q k) es i = some none ∧ ∀ e ∈ es, e.key ≠ .int q k) ∨ ∃ j e, Instr.findNow (.int q) (.int q k) es i = some (some (i + j, e.val)) ∧ es[j]? = some e ∧ e.key = .int q k
  | [], _, _ => .inl ⟨rfl, fun _ h => by cases h⟩
  | e :: es, i, h => by
    obtain ⟨x, hx⟩ := h e (List.mem_cons_self ..)
    by_cases hk : k = x
    · refine .inr ⟨0, e, ?_, rfl, by rw [hx, hk]⟩
      simp [Instr.findNow, Instr.sameNow, hx, hk]
    · have hne : e.key ≠ .int q k := fun hc => hk (by rw [hx] at hc; simpa using hc.symm)
      have hs : Instr.sameNow (.int q) (.int q k) e.key = some false := by simp [Instr.sameNow, hx, hk]
      rcases findNow_int k es (i + 1) (fun e he => h e (List.mem_cons_of_mem _ he)) with ⟨h1, h2⟩ | ⟨j, e', h1, h2, h3⟩
      · refine .inl ⟨by simp [Instr.findNow, hs, h1], fun e' he' => ?_⟩
        rcases List.mem_cons.1 he' with rfl | he'
        · exact hne
        · exact h2 e' he'
      · refine .inr ⟨j + 1, e', ?_, by simpa using h2, h3⟩
        simp [Instr.findNow, hs, h1]
        omega

/-- Keys of an integer's kind. -/
theorem int_law {P : Program} {kt : TypeId} {q : IntKind} (hk : P.underlying kt = some (.int q)) : KeyLaw P kt (Value.int q) where
  inj a b h := by simpa using h
  check w em k := by
    show (Instr.checkKey em (9999 + 1) kt (.int q k)).run P w = _
    unfold Instr.checkKey
    simp only [Sem.run_bind, run_underlying hk, Result.andThen_ok, Sem.run_pure]
  find w k es h := by
    rcases findNow_int k es 0 h with ⟨h1, h2⟩ | ⟨j, e, h1, h2, h3⟩
    · exact .inl ⟨by simp [Instr.findKey, run_underlying hk, h1], h2⟩
    · exact .inr ⟨j, e, by simp [Instr.findKey, run_underlying hk, h1], h2, h3⟩
  stays w k := by simp [Instr.keyThatStays, Instr.sameBits]

end Go.Fw

namespace Go.Fw

/-- Each element of l is followed by its neighbour, by 'nx' and 'pv'. -/
def Chain (nx pv : Nat → Nat) : List Nat → Prop
  | [] => True
  | [_] => True
  | a :: b :: l => nx a = b ∧ pv b = a ∧ Chain nx pv (b :: l)

def upd (f : Nat → Nat) (k v : Nat) : Nat → Nat := fun x => if x = k then v else f x
@[simp] theorem upd_same (f : Nat → Nat) (k v : Nat) : upd f k v k = v := by simp [upd]
theorem upd_ne (f : Nat → Nat) {k v x : Nat} (h : x ≠ k) : upd f k v x = f x := by simp [upd, h]

theorem chain_append {nx pv : Nat → Nat} : ∀ (l : List Nat) (x : Nat) (m : List Nat), Chain nx pv (l ++ x :: m) ↔ Chain nx pv (l ++ [x]) ∧ Chain nx pv (x :: m)
  | [], x, m => by simp [Chain]
  | [a], x, m => by simp [Chain, and_assoc]
  | a :: b :: l, x, m => by
    have := chain_append (nx := nx) (pv := pv) (b :: l) x m
    simp only [List.cons_append, Chain] at this ⊢
    rw [this]
    simp only [and_assoc]

/-- Where nothing of the chain has another neighbour, it stays. 'init' is asked of all but the last, 'tail' of all but the first. -/
theorem chain_congr {nx pv nx' pv' : Nat → Nat} : ∀ (l : List Nat), (∀ x ∈ l.dropLast, nx' x = nx x) → (∀ x ∈ l.tail, pv' x = pv x) → Chain nx pv l → Chain nx' pv' l
  | [], _, _, _ => trivial
  | [_], _, _, _ => trivial
  | a :: b :: l, h1, h2, ⟨g1, g2, g3⟩ => by
    refine ⟨(h1 a (by simp)).trans g1, (h2 b (by simp)).trans g2, chain_congr (b :: l) (fun x hx => h1 x (by simp [hx])) (fun x hx => h2 x ?_) g3⟩
    simp at hx ⊢
    exact .inr hx

/-- The ring: r, then the elements of ps, then r again. -/
def RingOf (nx pv : Nat → Nat) (r : Nat) (ps : List Nat) : Prop := (r :: ps).Nodup ∧ Chain nx pv (r :: ps ++ [r])

theorem ring_self (nx pv : Nat → Nat) (r : Nat) (h1 : nx r = r) (h2 : pv r = r) : RingOf nx pv r [] := ⟨by simp, h1, h2, trivial⟩

/-- One is taken out. -/
theorem ring_out {nx pv : Nat → Nat} {r : Nat} {xs ys : List Nat} {p : Nat} (h : RingOf nx pv r (xs ++ p :: ys)) :
    RingOf (upd nx (pv p) (nx p)) (upd pv (nx p) (pv p)) r (xs ++ ys) ∧ pv p ∈ r :: xs ∧ nx p ∈ ys ++ [r] := by
  obtain ⟨hn, hc⟩ := h
  -- the one before and the one behind
  obtain ⟨us, a, hu⟩ : ∃ us a, r :: xs = us ++ [a] := ⟨(r :: xs).dropLast, (r :: xs).getLast (by simp), (List.dropLast_concat_getLast (by simp)).symm⟩
  obtain ⟨b, vs, hv⟩ : ∃ b vs, ys ++ [r] = b :: vs := by cases ys with
    | nil => exact ⟨r, [], rfl⟩
    | cons y ys => exact ⟨y, ys ++ [r], rfl⟩
  have e1 : r :: (xs ++ p :: ys) ++ [r] = us ++ a :: p :: b :: vs := by
    have : r :: (xs ++ p :: ys) ++ [r] = (r :: xs) ++ p :: (ys ++ [r]) := by simp
    rw [this, hu, hv]; simp
  have e2 : r :: (xs ++ ys) ++ [r] = us ++ a :: b :: vs := by
    have : r :: (xs ++ ys) ++ [r] = (r :: xs) ++ (ys ++ [r]) := by simp
    rw [this, hu, hv]; simp
  rw [e1, chain_append] at hc
  obtain ⟨c1, c2⟩ := hc
  simp only [Chain] at c2
  obtain ⟨n1, n2, n3, n4, c3⟩ := c2
  have hpa : pv p = a := n2
  have hnp : nx p = b := n3
  rw [hpa, hnp]
  have hnd : (r :: xs ++ p :: ys).Nodup := by simpa using hn
  have hndu : (us ++ [a] ++ p :: ys).Nodup := by rw [← hu]; exact hnd
  have hndu1 : (us ++ [a]).Nodup := (List.nodup_append.1 hndu).1
  have hdis := (List.nodup_append.1 hndu).2.2
  -- 'a' stands once among all but the last; 'b' once among all but the first
  have ha_us : a ∉ us := fun h => (List.nodup_append.1 hndu1).2.2 a h a (by simp) rfl
  have ha_ys : a ∉ ys := fun h => hdis a (by simp) a (by simp [h]) rfl
  have hbv : (b :: vs).Nodup := by
    rw [← hv]
    have h1 : (r :: (xs ++ p :: ys)).Nodup := by simpa using hnd
    rw [List.nodup_cons] at h1
    rw [List.nodup_append]
    refine ⟨(List.nodup_append.1 h1.2).2.1.sublist (List.sublist_cons_self _ _), by simp, fun x hx y hy => ?_⟩
    simp at hy; subst hy
    exact fun e => h1.1 (by simp [← e, hx])
  have hb_vs : b ∉ vs := (List.nodup_cons.1 hbv).1
  have hb_tail : b ∉ (us ++ [a]).tail := by
    rw [← hu]
    intro hb
    have hbx : b ∈ xs := by simpa using hb
    have : b ∈ ys ++ [r] := by rw [hv]; simp
    rcases List.mem_append.1 this with h1 | h1
    · have h2 : (r :: (xs ++ p :: ys)).Nodup := by simpa using hnd
      rw [List.nodup_cons] at h2
      exact (List.nodup_append.1 h2.2).2.2 b hbx b (by simp [h1]) rfl
    · simp at h1
      subst h1
      rw [List.cons_append, List.nodup_cons] at hnd
      exact hnd.1 (by simp [hbx])
  refine ⟨⟨?_, ?_⟩, ?_, ?_⟩
  · exact hn.sublist (by simp)
  · rw [e2, chain_append]
    refine ⟨chain_congr _ (fun x hx => ?_) (fun x hx => ?_) c1, by simp, by simp, chain_congr _ (fun x hx => ?_) (fun x hx => ?_) c3⟩
    · rw [List.dropLast_concat] at hx
      exact upd_ne _ (fun e => ha_us (e ▸ hx))
    · exact upd_ne _ (fun e => hb_tail (e ▸ hx))
    · have : x ∈ ys := by rw [← hv, List.dropLast_concat] at hx; exact hx
      exact upd_ne _ (fun e => ha_ys (e ▸ this))
    · exact upd_ne _ (fun e => hb_vs (e ▸ by simpa using hx))
  · rw [hu]; simp
  · rw [hv]; simp

/-- One is laid behind the last. -/
theorem ring_last {nx pv : Nat → Nat} {r : Nat} {ps : List Nat} {p : Nat} (h : RingOf nx pv r ps) (hp : p ∉ r :: ps) :
    RingOf (upd (upd nx p r) (pv r) p) (upd (upd pv p (pv r)) r p) r (ps ++ [p]) ∧ pv r ∈ r :: ps := by
  obtain ⟨hn, hc⟩ := h
  obtain ⟨us, a, hu⟩ : ∃ us a, r :: ps = us ++ [a] := ⟨(r :: ps).dropLast, (r :: ps).getLast (by simp), (List.dropLast_concat_getLast (by simp)).symm⟩
  have e1 : r :: ps ++ [r] = us ++ a :: [r] := by rw [hu]; simp
  rw [e1, chain_append] at hc
  obtain ⟨c1, n1, n2, _⟩ := hc
  have hpa : pv r = a := n2
  rw [hpa]
  have hndu : (us ++ [a]).Nodup := by rw [← hu]; exact hn
  have ha_us : a ∉ us := fun h => (List.nodup_append.1 hndu).2.2 a h a (by simp) rfl
  have hpu : p ∉ us ++ [a] := by rw [← hu]; exact hp
  have hr_tail : r ∉ (us ++ [a]).tail := by rw [← hu]; exact (List.nodup_cons.1 hn).1
  have hpr : p ≠ r := fun e => hp (by simp [e])
  have hpa' : p ≠ a := fun e => hpu (by simp [e])
  refine ⟨⟨?_, ?_⟩, by rw [hu]; simp⟩
  · rw [← List.cons_append, List.nodup_append]
    exact ⟨hn, by simp, fun x hx y hy => by simp at hy; subst hy; exact fun e => hp (e ▸ hx)⟩
  · have e2 : r :: (ps ++ [p]) ++ [r] = us ++ a :: p :: [r] := by
      have : r :: (ps ++ [p]) ++ [r] = (r :: ps) ++ p :: [r] := by simp
      rw [this, hu]; simp
    rw [e2, chain_append]
    refine ⟨chain_congr _ (fun x hx => ?_) (fun x hx => ?_) c1, by simp, ?_, ?_, by simp, trivial⟩
    · rw [List.dropLast_concat] at hx
      rw [upd_ne _ (fun e : x = a => ha_us (e ▸ hx)), upd_ne _ (fun e : x = p => hpu (by simp [← e, hx]))]
    · rw [upd_ne _ (fun e : x = r => hr_tail (e ▸ hx)), upd_ne _ (fun e : x = p => hpu (by have := List.mem_of_mem_tail hx; rw [e] at this; exact this))]
    · rw [upd_ne _ hpr]; simp
    · rw [upd_ne _ hpa']; simp

theorem ring_first {nx pv : Nat → Nat} {r : Nat} {ps : List Nat} (h : RingOf nx pv r ps) : nx r = ps.headD r := by
  obtain ⟨_, hc⟩ := h
  cases ps with
  | nil => exact hc.1
  | cons p ps => exact hc.1
theorem ring_next {nx pv : Nat → Nat} {r : Nat} {ps : List Nat} (h : RingOf nx pv r ps) {xs ys : List Nat} {p : Nat} (hp : ps = xs ++ p :: ys) : nx p = ys.headD r := by
  obtain ⟨_, hc⟩ := h
  have : r :: ps ++ [r] = (r :: xs) ++ p :: (ys ++ [r]) := by rw [hp]; simp
  rw [this, chain_append] at hc
  cases ys with
  | nil => exact hc.2.1
  | cons y ys => exact hc.2.1
end Go.Fw
