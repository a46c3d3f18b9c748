/- slices.SortFunc at rows of three cells: what a caller that reads the first one needs. Condition: not more than 1000 elements. -/
import Derived.Shelf.SlSortCmp.NoneTotal
import Derived.Test.YthahlimmmnmniaaGreatDoorR18
namespace Go.Proofs.YthahlimmmnmniaaGreatDoor
open Go.RowKit Go.Fw Go.Sort Go.Shelf

theorem fr_sortWorld {enc : Int × Int × Int → List Value} {w : World} {g n : Nat} {d : Array (Int × Int × Int)} {os : Array Obj} : Fr [g] w (sortWorldK enc 3 w g 0 n d os) := by
  refine ⟨rfl, rfl, rfl, ?_, fun k hk hn => ?_⟩
  · show w.heap.size ≤ ((w.heap.modify g _) ++ os).size
    simp
  · show ((w.heap.modify g _) ++ os)[k]? = w.heap[k]?
    rw [Array.getElem?_append_left (by simpa using hk), Array.getElem?_modify, if_neg (by intro e; exact hn (by simp [e]))]

def HeadPost (enc : Int × Int × Int → List Value) (lt : Int × Int × Int → Int × Int × Int → Bool) (l : List (Int × Int × Int)) (v : Value) (w : World) (en : Ending) (w' : World) : Prop :=
  en = .returned (.tuple #[]) ∧ ∃ S : List Nat, (∀ k ∈ S, v.ownBlock = some k) ∧ Fr S w w' ∧
    (l ≠ [] → ∃ g cap x, v = .slice (some ⟨g, 0, none⟩) l.length cap ∧ g < w'.heap.size ∧ x ∈ l ∧ (∀ y ∈ l, lt y x = false) ∧ ∀ t u, (enc x)[t]? = some u → w'.cell? ⟨g, t, none⟩ = some u)

theorem sortHead {ρ : Ren} (L : SlLaysF0.n6 Tryz.prog ρ) (aE : ∀ w, (isAgg (ρ.t 24)).run Tryz.prog w = .ok true w) (zE : ∀ w, (Go.sizeOf (ρ.t 24)).run Tryz.prog w = .ok 3 w)
    (enc : Int × Int × Int → List Value) (hk : ∀ x, (enc x).length = 3) (h1 : ∀ x, ∀ v ∈ enc x, v.oneCell' = true) (cf : Int × Int × Int → Int × Int × Int → Int) (hO : SWO (ltOf cf)) (g : Nat)
    (eg : ∀ args w, (callFunc g args).run Tryz.prog w = .ok (.enter g args) w) (hcmp : ∀ blk off size w, CmpLays Tryz.prog g #[] enc 3 cf blk off size w)
    {w : World} {base e : Nat} {v : Value} {l : List (Int × Int × Int)} (h : w.ownsRow base e 3 v l.length (l.flatMap enc)) (hl : l.length ≤ 1000) :
    Calls Tryz.prog (ρ.f 6) #[v, .func (.func g) #[] #[]] w (HeadPost enc (ltOf cf) l v w) := by
  rcases h.2 with ⟨rfl, h0⟩ | ⟨b, cap, cur, rfl, hb, hg, r1, r2, r3, r4⟩
  · refine (AnyF.slices_SortFunc_none L none 0 _ w).mono ?_
    rintro en w' ⟨rfl, rfl⟩
    have hnil : l = [] := List.length_eq_zero_iff.1 h0
    exact ⟨rfl, [], by simp, Fr.refl _ _, fun hc => absurd hnil hc⟩
  · have hlen : ∀ i, (l.flatMap enc)[i]? = if i < l.length * 3 then (enc (l.toArray[i / 3]!))[i % 3]? else none := by
      clear h hg r1 r2 r3 r4 hl
      induction l with
      | nil => intro i; simp
      | cons x l ih =>
        intro i
        rw [List.flatMap_cons, List.getElem?_append, hk]
        split
        · rename_i hi
          rw [if_pos (by simp; omega), Nat.div_eq_of_lt hi, Nat.mod_eq_of_lt hi]
          simp
        · rename_i hi
          rw [ih]
          have e1 : i / 3 = (i - 3) / 3 + 1 := by omega
          have e2 : i % 3 = (i - 3) % 3 := by omega
          rw [e1, e2]
          have e3 : (i - 3 < l.length * 3) ↔ (i < (x :: l).length * 3) := by simp; omega
          simp only [e3]
          rw [show (x :: l).toArray[(i - 3) / 3 + 1]! = l.toArray[(i - 3) / 3]! from by simp]
    have hH : HoldsK enc 3 w b 0 l.toArray := by
      intro j hj
      rw [size_flatK] at hj
      have hj' : j < l.length * 3 := by simpa using hj
      have hx := hlen j
      rw [if_pos hj'] at hx
      rw [get_flatK _ _ _ _ hj]
      have hm : j % 3 < (enc l.toArray[j / 3]!).length := by rw [hk]; omega
      rw [List.getElem?_eq_getElem hm] at hx
      have hc := own_cell h hx
      refine ⟨?_, ?_⟩
      · simp only [Nat.zero_add]
        rw [hc, getElem!_pos (enc l.toArray[j / 3]!) (j % 3) hm]
        rfl
      · simp only [World.frozen?, hg]
        simp
    have hlt : b < w.heap.size := lt_of hg
    have hc := AnyQ.slices_SortFunc L 3 aE zE enc hk h1 cf hO g #[] b 0 cap l.toArray w eg (hcmp _ _ _ _) hH hlt (by simp; omega)
    simp only [List.size_toArray] at hc
    refine hc.mono ?_
    rintro en w' ⟨rfl, d', n, os, hp, hs, rfl⟩
    refine ⟨rfl, [b], by simp [Value.ownBlock], fr_sortWorld, fun hne => ?_⟩
    have hpos : 0 < l.length := List.length_pos_iff.2 hne
    obtain ⟨hsz, hmem, hmin⟩ := sorted_head (ltOf cf) hO l.toArray d' (by simpa using hp) (by simpa using hs) (by simpa using hpos)
    refine ⟨b, cap, d'[0]!, rfl, Nat.lt_of_lt_of_le hlt fr_sortWorld.size, by simpa using hmem, fun y hy => hmin y (by simpa using hy), fun t u hu => ?_⟩
    have ht : t < 3 := by
      have := (List.getElem?_eq_some_iff.1 hu).1
      rw [hk] at this
      exact this
    have hh := holds_putRow id (Sort.ahead w n) b 0 (flatK enc 3 l.toArray) (flatK enc 3 d') hH (by simp [hsz])
    have h2 : t < d'.size * 3 := by rw [hsz]; simp; omega
    have h3 := (hh t (by simpa using h2)).1
    rw [get_flatK _ _ _ _ h2] at h3
    have e1 : t / 3 = 0 := by omega
    have e2 : t % 3 = t := by omega
    rw [e1, e2] at h3
    have hgr : (sortWorldK enc 3 w b 0 n d' os).cell? ⟨b, t, none⟩ = (putRow id (Sort.ahead w n) b 0 (flatK enc 3 d')).cell? ⟨b, t, none⟩ := by
      refine World.cell?_of_block ?_
      show ((w.heap.modify b _) ++ os)[b]? = (w.heap.modify b _)[b]?
      rw [Array.getElem?_append_left (by simpa using hlt)]
    rw [hgr]
    simp only [Nat.zero_add] at h3
    rw [h3]
    have := List.getElem?_eq_some_iff.1 hu
    obtain ⟨h4, h5⟩ := this
    rw [getElem!_pos (enc d'[0]!) t h4, h5]
    rfl

theorem sortSeat_any {w : World} {base e : Nat} {v : Value} {l : List (Int × Int × Int)} (h : w.ownsRow base e 3 v l.length (l.flatMap encSeat)) (hl : l.length ≤ 1000) :
    Calls Tryz.prog 91 #[v, .func (.func 92) #[] #[]] w (HeadPost encSeat (ltOf cmpSeat) l v w) :=
  sortHead Tryz.sfSeat Tryz.isAgg150 Tryz.sizeOf150 encSeat (fun _ => rfl) (fun x v hv => by simp [encSeat] at hv; rcases hv with rfl | rfl | rfl <;> rfl) cmpSeat swoSeat 92
    (enters_of Tryz.func92 (by kernel_rfl) rfl) seatLays h hl
theorem sortSite_any {w : World} {base e : Nat} {v : Value} {l : List (Int × Int × Int)} (h : w.ownsRow base e 3 v l.length (l.flatMap encSite)) (hl : l.length ≤ 1000) :
    Calls Tryz.prog 86 #[v, .func (.func 83) #[] #[]] w (HeadPost encSite (ltOf cmpSite) l v w) :=
  sortHead Tryz.sfSite Tryz.isAgg62 Tryz.sizeOf62 encSite (fun _ => rfl) (fun x v hv => by simp [encSite] at hv; rcases hv with rfl | rfl | rfl <;> rfl) cmpSite swoSite 83
    (enters_of Tryz.func83 (by kernel_rfl) rfl) siteLays h hl
end Go.Proofs.YthahlimmmnmniaaGreatDoor
