/- append to an own row as one step of a region that draws its order. No conditions. append of a row that may be nil to an own row, as one step of a region that draws its order. No conditions. -/
import Derived.Deep.RegionLaw
import Derived.Laws.OwnMore
import Derived.Test.YthahlimmmnmniaaGreatDoorR02
namespace Go.Fw
open Go.RowKit

theorem step_append_own {P : Program} {ops : Array Oper} {o : Oper} {a : Act} {w : World} {K : Act → World → Prop} {Q : Exit → Act → World → Prop} {E : Prop}
    (hg : o.guard = none) (s x : Operand) (t : TypeId) (hop : o.op = Op.call { callee := Callee.builtin Builtin.append, args := #[s, x], argTypes := #[t, t] })
    (base : Nat) (e : TypeId) (i : TypeInfo) (z : Value) (size bytes : Nat) (ht : P.underlying t = some (.slice e)) (hi : P.info? e = some i) (hz : i.zero = some z)
    (hsize : i.size = size) (hby : i.bytes = bytes) (hzs : z.cells.size = size) (hsz : 0 < size)
    (v : Value) (n : Nat) (xs : List Value) (hs : a.eval s = v) (hown : w.ownsRow base e size v n xs)
    (ad : Addr) (m c : Nat) (news : List Value) (hx : a.eval x = .slice (some ad) m c) (hl : news.length = m * size) (hnews : ∀ j u, news[j]? = some u → w.cell? (ad.add j) = some u) (h1 : ∀ u ∈ news, u.oneCell' = true)
    (h63 : n + m ≤ maxLen) (hbytes : (n + m) * bytes ≤ 140737488355328) (hbase : base ≤ w.heap.size)
    (hK : ∀ v' w', w'.ownsRow base e size v' (n + m) (xs ++ news) → w.grownBy w' v.ownBlock → K (a.put o.dst v') w') :
    if Region.wanted o (yielded ops a.tmps) = true then Oper.wp P o a w K Q else E := by
  have hw : Region.wanted o (yielded ops a.tmps) = true := by simp [Region.wanted, hg]
  rw [if_pos hw]
  obtain ⟨v', w', hrun, r1, r2, _⟩ := run_append_own (P := P) w base t o.type e i z size bytes ht hi hz hsize hby hzs hsz v n xs hown ad m c news hl hnews h1 h63 hbytes hbase
  unfold Oper.wp
  simp [execOp, hop, resolve, invoke, builtin, hs, hx, hrun, Result.andThen]
  exact hK v' w' r1 r2

/-- An own row, as a slice whose cells are there. -/
theorem own_form {w : World} {base e size n : Nat} {v : Value} {xs : List Value} (h : w.ownsRow base e size v n xs) :
    ∃ ad cp, v = .slice ad n cp ∧ (n ≤ cp ∨ n = 0) ∧ (0 < n → ∃ g, ad = some ⟨g, 0, none⟩ ∧ base ≤ g ∧ g < w.heap.size ∧ ∀ (i : Nat) (x : Value), xs[i]? = some x → w.cell? ⟨g, i, none⟩ = some x) := by
  rcases h.2 with ⟨rfl, rfl⟩ | ⟨g, cap, cur, rfl, hb, hg, hn, r⟩
  · exact ⟨none, 0, rfl, .inr rfl, fun h => absurd h (Nat.lt_irrefl _)⟩
  · exact ⟨_, cap, rfl, .inl hn, fun _ => ⟨g, rfl, hb, lt_of hg, fun i x hi => own_cell h hi⟩⟩

/-- The cells of a row whose elements are k cells each. -/
theorem flat_at {α : Type} {enc : α → List Value} {k : Nat} (hk : ∀ x, (enc x).length = k) : ∀ {l : List α} {j t : Nat} {x : α} {u : Value}, l[j]? = some x → (enc x)[t]? = some u → (l.flatMap enc)[j * k + t]? = some u
  | [], j, t, x, u, h, _ => by simp at h
  | y :: l, 0, t, x, u, h, hu => by
    simp at h
    subst h
    rw [List.flatMap_cons, List.getElem?_append_left (by simpa using (List.getElem?_eq_some_iff.1 hu).1)]
    simpa using hu
  | y :: l, j + 1, t, x, u, h, hu => by
    rw [List.flatMap_cons, List.getElem?_append_right (by rw [hk, Nat.add_mul]; omega), hk]
    have := flat_at hk (l := l) (j := j) (t := t) (x := x) (u := u) (by simpa using h) hu
    have e : (j + 1) * k + t - k = j * k + t := by rw [Nat.add_mul]; omega
    rw [e]
    exact this
theorem own_lt {w : World} {base e size n : Nat} {v : Value} {xs : List Value} (h : w.ownsRow base e size v n xs) : ∀ k, v.ownBlock = some k → k < w.heap.size := by
  intro k hk
  rcases h.2 with ⟨rfl, _⟩ | ⟨g, cap, cur, rfl, hb, hg, _⟩
  · cases hk
  · simp [Value.ownBlock] at hk
    have := lt_of hg
    omega
/-- What an append to an own row leaves of newer blocks. -/
theorem grown_cell {wr wa w5 : World} {base e size n : Nat} {v : Value} {xs : List Value} (h : wr.ownsRow base e size v n xs) (hg : wa.grownBy w5 v.ownBlock) {k t : Nat} (hk : wr.heap.size ≤ k) (hk2 : k < wa.heap.size) {u : Option Value} (hu : wa.cell? ⟨k, t, none⟩ = u) : w5.cell? ⟨k, t, none⟩ = u :=
  (World.cell?_of_block (w := wa) (hg.block k hk2 (fun e => by have := own_lt h k e.symm; omega))).trans hu
end Go.Fw

namespace Go.Fw
open Go.RowKit

/-- A value that append takes m elements from. -/
def Srcs (w : World) (x : Value) (m size : Nat) (news : List Value) : Prop :=
  news.length = m * size ∧ ((x = .slice none 0 0 ∧ m = 0) ∨ ∃ ad c, x = .slice (some ad) m c ∧ ∀ j u, news[j]? = some u → w.cell? (ad.add j) = some u)

theorem step_append_src {P : Program} {ops : Array Oper} {o : Oper} {a : Act} {w : World} {K : Act → World → Prop} {Q : Exit → Act → World → Prop} {E : Prop}
    (hg : o.guard = none) (s x : Operand) (t : TypeId) (hop : o.op = Op.call { callee := Callee.builtin Builtin.append, args := #[s, x], argTypes := #[t, t] })
    (base : Nat) (e : TypeId) (i : TypeInfo) (z : Value) (size bytes : Nat) (ht : P.underlying t = some (.slice e)) (hi : P.info? e = some i) (hz : i.zero = some z)
    (hsize : i.size = size) (hby : i.bytes = bytes) (hzs : z.cells.size = size) (hsz : 0 < size)
    (v : Value) (n : Nat) (xs : List Value) (hs : a.eval s = v) (hown : w.ownsRow base e size v n xs)
    (m : Nat) (news : List Value) (xv : Value) (hx : a.eval x = xv) (hsrc : Srcs w xv m size news) (h1 : ∀ u ∈ news, u.oneCell' = true)
    (h63 : n + m ≤ maxLen) (hbytes : (n + m) * bytes ≤ 140737488355328) (hbase : base ≤ w.heap.size)
    (hK : ∀ v' w', w'.ownsRow base e size v' (n + m) (xs ++ news) → w.grownBy w' v.ownBlock → K (a.put o.dst v') w') :
    if Region.wanted o (yielded ops a.tmps) = true then Oper.wp P o a w K Q else E := by
  obtain ⟨hl, ⟨rfl, rfl⟩ | ⟨ad, c, rfl, hc⟩⟩ := hsrc
  · have hw : Region.wanted o (yielded ops a.tmps) = true := by simp [Region.wanted, hg]
    rw [if_pos hw]
    have hrun := run_append_owned_none (P := P) (w := w) base t o.type e i size ht hi v n xs hown
    obtain rfl : news = [] := List.eq_nil_of_length_eq_zero (by simpa using hl)
    unfold Oper.wp
    simp [execOp, hop, resolve, invoke, builtin, hs, hx, hrun, Result.andThen]
    refine hK v w (by simpa using hown) ⟨rfl, rfl, rfl, Nat.le_refl _, fun _ _ _ => rfl⟩
  · exact step_append_own hg s x t hop base e i z size bytes ht hi hz hsize hby hzs hsz v n xs hs hown ad m c news hx hl hc h1 h63 hbytes hbase hK

/-- The first i elements of an own row. -/
theorem src_take {w W : World} {base e size n : Nat} {ad : Option Addr} {cp i : Nat} {xs : List Value} {S : List Nat} (h : w.ownsRow base e size (.slice ad n cp) n xs) (hf : Fr S w W) (hS : ∀ k ∈ S, k < base) (hi : i ≤ n) (hcp : ad = none → i = 0 ∧ cp = 0) :
    Srcs W (.slice ad i cp) i size (xs.take (i * size)) := by
  refine ⟨by rw [List.length_take, h.1]; exact Nat.min_eq_left (Nat.mul_le_mul_right _ hi), ?_⟩
  have h' := own_fr h hf hS
  rcases h'.2 with ⟨h0, _⟩ | ⟨g, cap, cur, h0, hb, hg, r⟩
  · cases h0
    obtain ⟨rfl, _⟩ := hcp rfl
    exact .inl ⟨rfl, rfl⟩
  · cases h0
    refine .inr ⟨_, _, rfl, fun j u hu => ?_⟩
    rw [add_off]
    refine own_cell h' ?_
    rw [List.getElem?_take] at hu
    split at hu
    · exact hu
    · cases hu
/-- .. those from the i-th on. -/
theorem src_drop {w W : World} {base e size n g cp i c : Nat} {xs : List Value} {S : List Nat} (h : w.ownsRow base e size (.slice (some ⟨g, 0, none⟩) n cp) n xs) (hf : Fr S w W) (hS : ∀ k ∈ S, k < base) (hi : i ≤ n) :
    Srcs W (.slice (some ⟨g, i * size, none⟩) (n - i) c) (n - i) size (xs.drop (i * size)) := by
  refine ⟨by rw [List.length_drop, h.1, Nat.sub_mul], ?_⟩
  have h' := own_fr h hf hS
  refine .inr ⟨_, _, rfl, fun j u hu => ?_⟩
  have : (⟨g, i * size, none⟩ : Addr).add j = ⟨g, i * size + j, none⟩ := by
    unfold Addr.add
    split
    · rename_i h; subst h; rfl
    · simp
  rw [this]
  refine own_cell h' ?_
  rw [List.getElem?_drop] at hu
  exact hu
/-- .. as the model spells a reslicing that may end at the row's end. -/
theorem src_drop_if {w W : World} {base e size n g cp i c : Nat} {xs : List Value} {S : List Nat} (h : w.ownsRow base e size (.slice (some ⟨g, 0, none⟩) n cp) n xs) (hf : Fr S w W) (hS : ∀ k ∈ S, k < base) (hi : i ≤ n) :
    Srcs W (.slice (if cp = i then some ⟨g, 0, none⟩ else some ⟨g, i * size, none⟩) (n - i) c) (n - i) size (xs.drop (i * size)) := by
  split
  · rename_i hc
    have hn : n ≤ cp := by
      rcases h.2 with ⟨h0, _⟩ | ⟨g', cap', cur, h0, _, _, h1, _⟩
      · cases h0
      · cases h0; exact h1
    have h0 : n - i = 0 := by omega
    refine ⟨(src_drop h hf hS hi (c := c)).1, .inr ⟨_, _, rfl, fun j u hu => ?_⟩⟩
    have hl := (src_drop h hf hS hi (c := c)).1
    rw [h0, Nat.zero_mul] at hl
    rw [List.eq_nil_of_length_eq_zero hl] at hu
    simp at hu
  · exact src_drop h hf hS hi
/-- A row of no elements, just made. -/
theorem own_made (w : World) (e size : Nat) : (w.alloc (.cells #[] e)).ownsRow w.heap.size e size (.slice (some ⟨w.heap.size, 0, none⟩) 0 0) 0 [] :=
  World.ownsRow_made w #[] 0 (Nat.le_refl _) (Nat.zero_le _) (by simp)
theorem own_empty {W : World} {e size B base : Nat} (h : W.heap[B]? = some (.cells #[] e (0, 0))) (hb : base ≤ B) : W.ownsRow base e size (.slice (some ⟨B, 0, none⟩) 0 0) 0 [] :=
  ⟨by simp, .inr ⟨B, 0, #[], rfl, hb, h, Nat.le_refl _, Nat.zero_le _, by simp, by simp⟩⟩
/-- A block of one element's cells, as a source. -/
theorem src_one {W : World} {e B size c : Nat} {xs : List Value} (h : W.heap[B]? = some (.cells xs.toArray e (0, 0))) (hl : xs.length = size) : Srcs W (.slice (some ⟨B, 0, none⟩) 1 c) 1 size xs := by
  refine ⟨by rw [hl, Nat.one_mul], .inr ⟨_, _, rfl, fun j u hu => ?_⟩⟩
  rw [add_off]
  exact cell_at h j (by simpa using hu)
theorem flat_take {α : Type} {enc : α → List Value} {k : Nat} (hk : ∀ x, (enc x).length = k) : ∀ (l : List α) (i : Nat), (l.flatMap enc).take (i * k) = (l.take i).flatMap enc
  | [], i => by simp
  | x :: l, 0 => by simp
  | x :: l, i + 1 => by
    rw [List.flatMap_cons, List.take_succ_cons, List.flatMap_cons, ← flat_take hk l i, Nat.add_mul, Nat.one_mul, Nat.add_comm, List.take_append, hk, Nat.add_sub_cancel_left, List.take_of_length_le (by rw [hk]; omega)]
theorem flat_drop {α : Type} {enc : α → List Value} {k : Nat} (hk : ∀ x, (enc x).length = k) : ∀ (l : List α) (i : Nat), (l.flatMap enc).drop (i * k) = (l.drop i).flatMap enc
  | [], i => by simp
  | x :: l, 0 => by simp
  | x :: l, i + 1 => by
    rw [List.flatMap_cons, List.drop_succ_cons, ← flat_drop hk l i, Nat.add_mul, Nat.one_mul, Nat.add_comm, List.drop_append, hk, Nat.add_sub_cancel_left, List.drop_eq_nil_of_le (by rw [hk]; omega), List.nil_append]
end Go.Fw
