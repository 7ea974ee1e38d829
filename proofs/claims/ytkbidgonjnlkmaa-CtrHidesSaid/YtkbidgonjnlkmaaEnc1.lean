/-
  A struct built of a bool and two arrays; the contracts of aes.New and aes.Encrypt. No condition. Own work.
-/
import Derived.Test.YtkbidgonjnlkmaaCiph2
import Derived.Laws.Tables
namespace Go.Proofs.Ytkbidgonjnlkmaa
open Go.RowKit

theorem lay_get (off : Nat) : ∀ (vs : List Value) (k : Nat) (A : Array Value), off + k + vs.length ≤ A.size →
    ((vs.zipIdx k).foldl (fun (cs : Array Value) (p : Value × Nat) => cs.setIfInBounds (off + p.2) p.1) A).size = A.size ∧
    ∀ j, ((vs.zipIdx k).foldl (fun (cs : Array Value) (p : Value × Nat) => cs.setIfInBounds (off + p.2) p.1) A)[j]? = if off + k ≤ j ∧ j < off + k + vs.length then vs[j - (off + k)]? else A[j]? := by
  intro vs
  induction vs with
  | nil => intro k A _; refine ⟨rfl, fun j => ?_⟩; rw [if_neg (by simp)]; rfl
  | cons v vs ih =>
    intro k A h
    rw [List.length_cons] at h ⊢
    rw [List.zipIdx_cons, List.foldl_cons]
    obtain ⟨h1, h2⟩ := ih (k + 1) (A.setIfInBounds (off + k) v) (by rw [Array.size_setIfInBounds]; omega)
    refine ⟨by rw [h1, Array.size_setIfInBounds], fun j => ?_⟩
    rw [h2 j]
    by_cases h3 : j = off + k
    · subst h3
      rw [if_neg (by omega), if_pos (by omega), Array.getElem?_setIfInBounds_self, if_pos (by omega), Nat.sub_self]
      rfl
    · by_cases h4 : off + (k + 1) ≤ j ∧ j < off + (k + 1) + vs.length
      · rw [if_pos h4, if_pos (by omega), show j - (off + k) = j - (off + (k + 1)) + 1 from by omega, List.getElem?_cons_succ]
      · rw [if_neg h4, if_neg (by omega), Array.getElem?_setIfInBounds_ne (by omega)]
theorem lay_arr (off : Nat) (v : Array Value) (A : Array Value) (h : off + v.size ≤ A.size) :
    v.zipIdx.foldl (fun (cs : Array Value) (p : Value × Nat) => cs.setIfInBounds (off + p.2) p.1) A = (A.toList.take off ++ v.toList ++ A.toList.drop (off + v.size)).toArray := by
  obtain ⟨_, h2⟩ := lay_get off v.toList 0 A (by simpa using h)
  rw [← Array.foldl_toList, Array.toList_zipIdx]
  apply Array.ext_getElem?
  intro j
  have e : ∀ L : List Value, L.toArray[j]? = L[j]? := fun L => List.getElem?_toArray
  rw [h2 j, e (A.toList.take off ++ v.toList ++ A.toList.drop (off + v.size)), List.append_assoc, List.getElem?_append, List.length_take, Nat.min_eq_left (by rw [Array.length_toList]; omega), List.getElem?_append]
  have hv : v.toList.length = v.size := Array.length_toList
  rw [hv]
  by_cases h1 : j < off
  · rw [if_neg (by omega), if_pos h1, List.getElem?_take, if_pos h1, Array.getElem?_toList]
  · rw [if_neg h1]
    by_cases h3 : j - off < v.size
    · rw [if_pos (by omega), if_pos h3]; rfl
    · rw [if_neg (by omega), if_neg h3, List.getElem?_drop, Array.getElem?_toList]
      congr 1
      omega

theorem built_info : (match Try.prog.info? 31, Try.prog.underlying 31 with
    | some it, some (.struct fs) => (it.zero.map (·.cells.size), fs.toList.mapM (fun f => (Try.prog.info? f.type).map fun i => (f.offset, i.size)))
    | _, _ => (none, none)) = (some 433, some [(0, 1), (1, 176), (177, 256)]) := by kernel_rfl

theorem built_ciph (W T : List UInt8) (hW : W.length = 176) (hT : T.length = 256) :
    Try.prog.built 31 [(0, .bool true), (1, .agg (bvs W)), (2, .agg (bvs T))] = some (.bool true :: (W.map bv ++ T.map bv)).toArray := by
  have h := built_info
  unfold Program.built
  cases hi : Try.prog.info? 31 with
  | none => rw [hi] at h; simp at h
  | some it =>
    cases hu : Try.prog.underlying 31 with
    | none => rw [hi, hu] at h; simp at h
    | some d =>
      rw [hi, hu] at h
      cases d <;> try (simp at h; done)
      case struct fs =>
        simp only [Prod.mk.injEq] at h
        obtain ⟨h1, h2⟩ := h
        cases hz : it.zero with
        | none => rw [hz] at h1; simp at h1
        | some z =>
          rw [hz] at h1
          have hzs : z.cells.size = 433 := by simpa using h1
          simp only [h2, hz]
          have s1 : (Value.bool true).cells.size = 1 := rfl
          have s2 : (Value.agg (bvs W)).cells.size = 176 := by show (bvs W).size = _; rw [bvs_size, hW]
          have s3 : (Value.agg (bvs T)).cells.size = 256 := by show (bvs T).size = _; rw [bvs_size, hT]
          have e0 : ([(0, 1), (1, 176), (177, 256)] : List (Nat × Nat)).toArray[0]? = some (0, 1) := rfl
          have e1 : ([(0, 1), (1, 176), (177, 256)] : List (Nat × Nat)).toArray[1]? = some (1, 176) := rfl
          have e2 : ([(0, 1), (1, 176), (177, 256)] : List (Nat × Nat)).toArray[2]? = some (177, 256) := rfl
          obtain ⟨A1, hA1⟩ : ∃ A, A = (Value.bool true).cells.zipIdx.foldl (fun (cs : Array Value) (p : Value × Nat) => cs.setIfInBounds (0 + p.2) p.1) z.cells := ⟨_, rfl⟩
          obtain ⟨A2, hA2⟩ : ∃ A, A = (Value.agg (bvs W)).cells.zipIdx.foldl (fun (cs : Array Value) (p : Value × Nat) => cs.setIfInBounds (1 + p.2) p.1) A1 := ⟨_, rfl⟩
          obtain ⟨A3, hA3⟩ : ∃ A, A = (Value.agg (bvs T)).cells.zipIdx.foldl (fun (cs : Array Value) (p : Value × Nat) => cs.setIfInBounds (177 + p.2) p.1) A2 := ⟨_, rfl⟩
          have l1 := lay_arr 0 (Value.bool true).cells z.cells (by rw [s1]; omega)
          rw [← hA1] at l1
          have z1 : A1.size = 433 := by rw [l1]; simp [s1, hzs]
          have l2 := lay_arr 1 (Value.agg (bvs W)).cells A1 (by rw [s2]; omega)
          rw [← hA2] at l2
          have z2 : A2.size = 433 := by rw [l2]; simp [s2, z1]
          have l3 := lay_arr 177 (Value.agg (bvs T)).cells A2 (by rw [s3]; omega)
          rw [← hA3] at l3
          have f1 : Instr.fill (([(0, 1), (1, 176), (177, 256)] : List (Nat × Nat)).toArray[·]?) z.cells [(0, .bool true), (1, .agg (bvs W)), (2, .agg (bvs T))] = some A3 := by
            unfold Instr.fill
            simp only [e0]
            rw [if_neg (by simp [s1, hzs])]
            unfold Instr.fill
            simp only [e1]
            rw [← hA1, if_neg (by simp [s2, z1])]
            unfold Instr.fill
            simp only [e2]
            rw [← hA2, if_neg (by simp [s3, z2]), ← hA3]
            rfl
          rw [f1, l3, l2, l1]
          have c1 : (Value.bool true).cells.toList = [.bool true] := rfl
          have c2 : (Value.agg (bvs W)).cells.toList = W.map bv := rfl
          have c3 : (Value.agg (bvs T)).cells.toList = T.map bv := rfl
          rw [c1, c2, c3, s1, s2, s3]
          congr 2
          have w1 : (W.map bv).length = 176 := by rw [List.length_map, hW]
          simp [hzs, w1, List.drop_append]
end Go.Proofs.Ytkbidgonjnlkmaa
