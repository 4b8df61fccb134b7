/- version.row and version.Row: names in the order of versions, each once, in a row of the call's own; nothing that was there changes. Condition: at most 1048576 names of at most 1048576 bytes. -/
import Derived.Sort.OwnSorted
import Derived.Test.YtolaecdopfmbgaaDoorShelfb
import Derived.Test.YtolaecdopfmbgaaDoorRg
namespace Go.Proofs.YtolaecdopfmbgaaDoor
open Go.RowKit Go.Shelf Go.Sort

/-- a name that isn't too long -/
abbrev Nam := { l : List UInt8 // l.length ≤ 1048576 }
instance : Inhabited Nam := ⟨⟨[], by decide⟩⟩
def encN : Nam → Value := fun x => encStr x.1
abbrev Small (l : List (List UInt8)) : Prop := ∀ x ∈ l, x.length ≤ 1048576
def toN (l : List (List UInt8)) (h : Small l) : List Nam := l.pmap (fun x hx => ⟨x, hx⟩) h
theorem toN_val (l : List (List UInt8)) (h : Small l) : (toN l h).map (·.1) = l := by
  unfold toN; simp [List.map_pmap]
theorem toN_length (l : List (List UInt8)) (h : Small l) : (toN l h).length = l.length := by simp [toN]
theorem getN (d : Array Nam) (j : Nat) (h : j < d.size) : (d.map (·.1))[j]! = d[j]!.1 := by
  rw [getElem!_pos _ j (by simpa using h), getElem!_pos _ j h, Array.getElem_map]
theorem putN (w : World) (blk off : Nat) (d : Array Nam) : putRow encN w blk off d = putRow encStr w blk off (d.map (·.1)) := by
  unfold putRow
  congr 1
  funext c
  unfold putCells
  apply Array.ext_getElem?
  intro k
  simp only [Array.getElem?_mapIdx, Array.size_map]
  cases c[k]? with
  | none => rfl
  | some x =>
    simp only [Option.map_some]
    by_cases h : off ≤ k ∧ k < off + d.size
    · rw [if_pos h, if_pos h, getN _ _ (by omega)]; rfl
    · rw [if_neg h, if_neg h]
theorem holdsN (w : World) (blk off : Nat) (d : Array Nam) (h : Holds encStr w blk off (d.map (·.1))) : Holds encN w blk off d := fun j hj => by
  have := h j (by simpa using hj)
  rw [getN _ _ hj] at this
  exact this
theorem grow_of_below {w w' : World} (hb : RowKit.Below w.heap.size w w') (hd : w.drawn ≤ w'.drawn) : ∃ q os, w' = grow (w.drewN q) os := by
  refine ⟨w'.drawn - w.drawn, w'.heap.extract w.heap.size w'.heap.size, ?_⟩
  have hheap : w'.heap = w.heap ++ w'.heap.extract w.heap.size w'.heap.size := by
    apply Array.ext_getElem?
    intro k
    have hs := hb.size
    rw [Array.getElem?_append]
    split
    · rename_i h; exact hb.block k h
    · rename_i h
      rw [Array.getElem?_extract]
      by_cases h2 : k < w'.heap.size
      · rw [if_pos (by omega)]; congr 1; omega
      · rw [if_neg (by omega), Array.getElem?_eq_none (by omega)]
  have e : w'.drawn = w.drawn + (w'.drawn - w.drawn) := by omega
  obtain ⟨hh, ht, hdr, ho, hout⟩ := w'
  have e1 := hb.os; have e2 := hb.tape; have e3 := hb.output
  simp only at e1 e2 e3 e hheap
  subst e1; subst e2; subst e3
  unfold grow World.drewN
  simp only
  congr 1
theorem cmpLays (blk off size : Nat) (w : World) : CmpLays1 Tryd.prog 67 #[] encN (fun x y => verC x.1 y.1) blk off size w := by
  intro m os dk hs x y
  refine (Cmp_calls x.1 y.1 _ x.2 y.2).mono fun e w' ⟨he, hb, hd⟩ => ⟨he, grow_of_below hb hd⟩
theorem swoN : SWO (ltOf fun x y : Nam => verC x.1 y.1) := swoV (fun x : Nam => x.1)

theorem permN {d d' : Array Nam} (h : PermIn 0 d.size d d') : d'.size = d.size ∧ ∀ x, x ∈ d'.toList ↔ x ∈ d.toList := by
  obtain ⟨h1, _, h2⟩ := h
  refine ⟨h1, fun x => ?_⟩
  have h3 := h2.mem_iff (a := x)
  have e1 : d'.extract 0 d.size = d' := by rw [← h1]; simp
  have e2 : d.extract 0 d.size = d := by simp
  rw [e1, e2] at h3
  exact h3
/-- behind the sort and compact: the row -/
theorem row_of_sort (l : List (List UInt8)) (hl : Small l) (d' : Array Nam) (hp : PermIn 0 (toN l hl).toArray.size (toN l hl).toArray d') (hs : SortedIn (ltOf fun x y : Nam => verC x.1 y.1) 0 (toN l hl).toArray.size d') :
    Lib.compact (d'.toList.map (·.1)) = rowV l ∧ (d'.toList.map (·.1)).length = l.length := by
  obtain ⟨h1, h2⟩ := permN hp
  have hsz : d'.size = l.length := by rw [h1]; simp [toN]
  refine ⟨?_, by simp [hsz]⟩
  have hget : ∀ i, i < d'.size → (d'.toList.map (·.1)).toArray[i]! = d'[i]!.1 := fun i hi => by
    rw [← getN d' i hi]; congr 1; apply Array.ext'; simp
  unfold Lib.compact
  obtain ⟨c1, c2⟩ := compact_srt (d'.toList.map (·.1)).toArray (fun i j hij hj => by
    have hj' : j < d'.size := by simpa using hj
    rw [hget i (by omega), hget j hj']
    have := hs i j (Nat.zero_le _) hij (by rw [← h1]; exact hj')
    simpa [ltOf] using this) (d'.toList.map (·.1)).length (by simp)
  refine rowV_of l _ c1 fun x => (c2 x).trans ⟨?_, ?_⟩
  · rintro ⟨i, hi, e⟩
    have hi' : i < d'.size := by simpa using hi
    rw [hget i hi'] at e
    have hm : d'[i]! ∈ d'.toList := by rw [getElem!_pos d' i hi']; exact Array.getElem_mem_toList ..
    have := (h2 _).1 hm
    have hx : d'[i]!.1 ∈ (toN l hl).map (·.1) := List.mem_map_of_mem (by simpa using this)
    rw [toN_val] at hx
    rwa [e] at hx
  · intro hx
    rw [← toN_val l hl] at hx
    obtain ⟨y, hy, rfl⟩ := List.mem_map.1 hx
    have := (h2 y).2 (by simpa using hy)
    obtain ⟨i, hi, e⟩ := List.mem_iff_getElem.1 this
    have hi' : i < d'.size := by simpa using hi
    refine ⟨i, by simpa using hi, ?_⟩
    rw [hget i hi', getElem!_pos d' i hi']
    rw [← e]; simp
end Go.Proofs.YtolaecdopfmbgaaDoor
