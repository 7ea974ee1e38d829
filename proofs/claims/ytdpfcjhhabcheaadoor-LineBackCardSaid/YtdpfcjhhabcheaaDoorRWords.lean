/-
  A text's words, plainly; what a string's iterator yields beside blanks. No condition. Own work.
-/
import Derived.Test.YtdpfcjhhabcheaaDoorStrs
import Derived.Lib.DecodeN
import Derived.Lib.SpaceUEq
import Derived.Lib.OthersKept
import Derived.Test.YtdpfcjhhabcheaaDoorSl
namespace Go.Proofs.YtdpfcjhhabcheaaDoor
open Go Go.RowKit

/-- The words of bytes, behind those of a word that has begun. -/
def wordsA (cur : List UInt8) : List UInt8 → List (List UInt8)
  | [] => if cur = [] then [] else [cur]
  | c :: l => if c = 32 then (if cur = [] then wordsA [] l else cur :: wordsA [] l) else wordsA (cur ++ [c]) l
def wordsL (l : List UInt8) : List (List UInt8) := wordsA [] l
theorem wordsA_blank_nil (l : List UInt8) : wordsA [] (32 :: l) = wordsA [] l := by simp [wordsA]
theorem wordsA_blank (cur l : List UInt8) (h : cur ≠ []) : wordsA cur (32 :: l) = cur :: wordsA [] l := by simp [wordsA, h]
theorem wordsA_skip : ∀ (k : Nat) (cur l : List UInt8), k ≤ l.length → (∀ j c, j < k → l[j]? = some c → c ≠ 32) → wordsA cur l = wordsA (cur ++ l.take k) (l.drop k)
  | 0, cur, l, _, _ => by simp
  | k + 1, cur, [], h, _ => by simp at h
  | k + 1, cur, c :: l, h, hz => by
    have h0 := hz 0 c (by omega) rfl
    rw [wordsA, if_neg h0, wordsA_skip k (cur ++ [c]) l (by simpa using h) (fun j d hj hd => hz (j + 1) d (by omega) (by simpa using hd))]
    simp
theorem get_list (s : ByteArray) (i : Nat) (c : UInt8) (h : s.data.toList[i]? = some c) : s.get! i = c := by
  have h2 : s.data[i]? = some c := by simpa using h
  show s.data[i]! = c
  rw [Array.getElem!_eq_getD, Array.getD_eq_getD_getElem?, h2]
  rfl
/-- Where a blank stands, the iterator yields it. -/
theorem dec_blank (s : ByteArray) (i : Nat) (h : s.data.toList[i]? = some 32) : Utf8.decode s i = (32, 1) := by
  rw [Lib.decode_at, get_list s i 32 h]
  simp [Lib.decodeN]
/-- Where none stands, it yields none, and goes over none. -/
theorem dec_other (s : ByteArray) (i : Nat) (c : UInt8) (h : s.data.toList[i]? = some c) (hc : c ≠ 32) :
    (Utf8.decode s i).1 ≠ 32 ∧ 1 ≤ (Utf8.decode s i).2 ∧ i + (Utf8.decode s i).2 ≤ s.size ∧ ∀ j d, j < (Utf8.decode s i).2 → (s.data.toList.drop i)[j]? = some d → d ≠ 32 := by
  have hi : i < s.size := by
    have := (List.getElem?_eq_some_iff.mp h).1
    simpa using this
  have hcn : c.toNat ≠ 32 := fun e => hc (UInt8.toNat_inj.1 (by rw [e]; rfl))
  have hg := get_list s i c h
  have hgk : ∀ k d, (s.data.toList.drop i)[k]? = some d → s.get! (i + k) = d := fun k d hd => get_list s (i + k) d (by rwa [List.getElem?_drop] at hd)
  have hk := Lib.decodeN_conts (s.size - i) c.toNat (s.get! (i + 1)).toNat (s.get! (i + 2)).toNat (s.get! (i + 3)).toNat
  have h1 : (Lib.decodeN (s.size - i) c.toNat (s.get! (i + 1)).toNat (s.get! (i + 2)).toNat (s.get! (i + 3)).toNat).1 ≠ 32 ∧ 1 ≤ (Lib.decodeN (s.size - i) c.toNat (s.get! (i + 1)).toNat (s.get! (i + 2)).toNat (s.get! (i + 3)).toNat).2 := by
    unfold Lib.decodeN
    repeat' split
    all_goals (simp only; omega)
  rw [Lib.decode_at, hg]
  generalize Lib.decodeN (s.size - i) c.toNat (s.get! (i + 1)).toNat (s.get! (i + 2)).toNat (s.get! (i + 3)).toNat = D at *
  obtain ⟨k2, k3, k4, k5⟩ := hk
  refine ⟨h1.1, h1.2, ?_, fun j d hj hd => ?_⟩
  · by_cases q4 : 4 ≤ D.2
    · have := (k4 q4).2; omega
    · by_cases q3 : 3 ≤ D.2
      · have := (k3 q3).2; omega
      · by_cases q2 : 2 ≤ D.2
        · have := (k2 q2).2; omega
        · omega
  · have e := hgk j d hd
    intro h32
    subst h32
    match j with
    | 0 => rw [Nat.add_zero] at e; rw [hg] at e; exact hc e
    | 1 => have := (k2 (by omega)).1; rw [e] at this; simp at this
    | 2 => have := (k3 (by omega)).1; rw [e] at this; simp at this
    | 3 => have := (k4 (by omega)).1; rw [e] at this; simp at this
    | j + 4 => omega
end Go.Proofs.YtdpfcjhhabcheaaDoor

/-
  The contract of the reference's Words. No condition. Own work.
-/
namespace Go.Proofs.YtdpfcjhhabcheaaDoor
open Go Go.RowKit

/-- Texts as cells. -/
def bas (L : List (List UInt8)) : List Value := L.map fun l => Value.string ⟨l.toArray⟩
theorem bas_snoc (L : List (List UInt8)) (s : ByteArray) : bas L ++ [Value.string s] = bas (L ++ [s.data.toList]) := by simp [bas]
theorem sz_list (x : ByteArray) : x.size = x.data.toList.length := by simp
theorem bas_len (L : List (List UInt8)) : (bas L).length = L.length := by simp [bas]
theorem tl_nil {s : ByteArray} (h : s.data.toList = []) : s.toList = [] := by rw [str_tl, h]
/-- Facts on an empty, a non-empty text, as the walk spells them. -/
theorem tl_ne {s : ByteArray} (h : s.data.toList ≠ []) : ¬ s.toList = [] ∧ (s.toList == []) = false ∧ s.toList.isEmpty = false := by
  have h1 : ¬ s.toList = [] := by rw [str_tl]; exact h
  refine ⟨h1, by simpa using h1, ?_⟩
  cases hs : s.toList with
  | nil => exact absurd hs h1
  | cons a b => rfl
theorem tl_em {s : ByteArray} (h : s.data.toList = []) : s.toList = [] ∧ (s.toList == []) = true ∧ s.toList.isEmpty = true := by
  have h1 := tl_nil h
  exact ⟨h1, by rw [h1]; rfl, by rw [h1]; rfl⟩
end Go.Proofs.YtdpfcjhhabcheaaDoor
