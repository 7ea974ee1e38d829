/-
  The contract of octet.Put: a number's bytes. No condition. Own work.
-/
import Derived.Test.YtdpfcjhhabcheaaDoorArr0
namespace Go.Proofs.YtdpfcjhhabcheaaDoor
open Go.RowKit

/-- The i lowest bytes of a number, the highest one first. -/
def be (n : Nat) : Nat → List UInt8
  | 0 => []
  | i + 1 => UInt8.ofNat (n / 2 ^ (8 * i)) :: be n i
theorem be_len (n i : Nat) : (be n i).length = i := by
  induction i with
  | zero => rfl
  | succ i ih => simp [be, ih]
theorem be_set (n k i : Nat) (h : i < k) : (List.replicate (k - i) 0 ++ be n i).set (k - 1 - i) (UInt8.ofNat (n / 2 ^ (8 * i))) = List.replicate (k - (i + 1)) 0 ++ be n (i + 1) := by
  obtain ⟨m, rfl⟩ : ∃ m, k = i + m + 1 := ⟨k - i - 1, by omega⟩
  rw [show i + m + 1 - i = m + 1 from by omega, show i + m + 1 - 1 - i = m from by omega, show i + m + 1 - (i + 1) = m from by omega, List.replicate_succ', List.append_assoc]
  rw [List.set_append, List.length_replicate, if_neg (by omega), Nat.sub_self]
  rfl
theorem made_bvs (n : Nat) : madeCells #[.int .u8 0] n = bvs (List.replicate n 0) := by
  refine Array.ext (by simp [size_made, bvs]) fun i h1 h2 => ?_
  simp [madeCells, bvs, Nat.mod_one]
theorem shr_be (n i : Nat) : IntKind.u8.wrap ((n : Int) / 2 ^ (8 * i)) = (((UInt8.ofNat (n / 2 ^ (8 * i))).toNat : Nat) : Int) := by
  have e : (n : Int) / 2 ^ (8 * i) = ((n / 2 ^ (8 * i) : Nat) : Int) := by simp
  rw [e, IntKind.wrap_u8, UInt8.toNat_ofNat']
  simp

set_option maxHeartbeats 1600000 in
theorem put_any (n k : Nat) (hn : n ≤ 9223372036854775807) (hk1 : 1 ≤ k) (hk8 : k ≤ 8) (hlt : n < 2 ^ (8 * k)) (w : World) :
    Calls Tryd.prog 55 #[.int .i64 (n : Int), .int .i64 (k : Int)] w fun e w' => e = .returned (.tuple #[.string ⟨(be n k).toArray⟩, .int .i64 0]) ∧ Below w.heap.size w w' := by
  obtain ⟨j0, hj, jz0, jz1, jz2⟩ := info_parts byte_info
  have hmk := fun W => run_make_bytes (P := Tryd.prog) 93 5 j0 Tryd.underlying93 hj jz0 jz1 jz2 k (by omega) W
  clear hj jz0 jz1 jz2
  simp only [made_bvs] at hmk
  have h1 : ¬ (k : Int) < 1 := by omega
  have h2 : ¬ (8 : Int) < (k : Int) := by omega
  have h3 : ¬ (n : Int) < 0 := by omega
  have hsh : (n : Int) / 2 ^ (8 * k) = 0 := by
    have e : (n : Int) / 2 ^ (8 * k) = ((n / 2 ^ (8 * k) : Nat) : Int) := by simp
    rw [e, Nat.div_eq_of_lt hlt]; rfl
  by_cases h8 : (k : Int) < 8
  all_goals
    go_enter Tryd.func55, Tryd.ntmps55
    go_wp2_with fail
    clear hmk hsh
    go_loopw [32] (fun c wr => ∃ i : Nat, i ≤ k ∧ c = .int .i64 (i : Int) ∧ Arr wr w.heap.size 5 (List.replicate (k - i) 0 ++ be n i) ∧ Below w.heap.size w wr) (fun c _ => k - (intOf c).toNat)
    case atStart => exact ⟨0, by omega, rfl, by simpa [be] using Arr.new w 5 (List.replicate k 0), bnew _ _⟩
    case round =>
      obtain ⟨i, hi, rfl, hA, hbw⟩ := hrel
      by_cases hik : i < k
      · have hii : (i : Int) < (k : Int) := by omega
        have j1 : (0 : Int) ≤ (k : Int) - 1 - (i : Int) := by omega
        have hsb := shr_be n i
        obtain ⟨c, hc⟩ : ∃ c, c = UInt8.ofNat (n / 2 ^ (8 * i)) := ⟨_, rfl⟩
        rw [← hc] at hsb
        have hset := be_set n k i hik
        rw [← hc] at hset
        obtain ⟨q, hq⟩ : ∃ q : Nat, (k : Int) - 1 - (i : Int) = (q : Int) := ⟨k - 1 - i, by omega⟩
        have hq' : k - 1 - i = q := by omega
        rw [hq'] at hset
        obtain ⟨d, hd⟩ : ∃ d, (List.replicate (k - i) 0 ++ be n i)[q]? = some d := ⟨_, List.getElem?_eq_getElem (by simp [be_len]; omega)⟩
        have hcell := hA.cell hd
        have hfz := hA.frozen q
        have HS := Lib.hid hset
        have HA := Lib.hid hA
        have HB := Lib.hid hbw
        clear hset hA hbw hc hd
        go_wp2_with fail
        refine ⟨⟨i + 1, by omega, by go_num, ?_, HB.out.setCell (by simp) _⟩, by simp [intOf]; omega⟩
        have h := HA.out.set q c
        rw [HS.out] at h
        exact h
      · have hi2 : i = k := by omega
        subst hi2
        rw [Nat.sub_self, List.replicate_zero, List.nil_append] at hA
        have hst := fun src e dst hs he hd => hA.str (P := Tryd.prog) i i (be_len n i).symm src e dst hs he hd
        have hsx := hst 93 5 9 Tryd.underlying93 Tryd.underlying5 Tryd.underlying9
        generalize hR : be n i = R at *
        have HB := Lib.hid hbw
        clear hst hA hbw
        go_wp2_with fail
        go_ret2
        exact ⟨by rw [hR]; rfl, HB.out⟩
end Go.Proofs.YtdpfcjhhabcheaaDoor
