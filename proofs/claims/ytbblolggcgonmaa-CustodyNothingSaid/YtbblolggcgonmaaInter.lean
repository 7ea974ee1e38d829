/-
  Interpolation over the bytes: the polynomial that is 1 at one place and 0 at others. No program in sight. No condition. Own work.
-/
import Derived.Test.YtbblolggcgonmaaPoly
namespace Go.Proofs.Ytbblolggcgonmaa

/-- A polynomial times b (X - x). -/
def ml (x b : UInt8) (p : List UInt8) : List UInt8 := pa (p.map fun c => gm (gm c x) b) (0 :: p.map fun c => gm c b)

theorem pe_map (p : List UInt8) (f : UInt8) (t : UInt8) : pe (p.map fun c => gm c f) t = gm (pe p t) f := by
  induction p with
  | nil => simp [pe, zero_gm]
  | cons c p ih => simp only [List.map_cons, pe, ih, xor_gm, gm_assoc]
theorem pe_ml (x b : UInt8) (p : List UInt8) (t : UInt8) : pe (ml x b p) t = gm (gm (t ^^^ x) b) (pe p t) := by
  unfold ml
  have e : (p.map fun c => gm (gm c x) b) = p.map fun c => gm c (gm x b) := by simp only [gm_assoc]
  rw [pe_pa, e, pe_map]
  show gm (pe p t) (gm x b) ^^^ (0 ^^^ gm t (pe (p.map fun c => gm c b) t)) = _
  rw [pe_map, UInt8.zero_xor, xor_gm, xor_gm, gm_comm (pe p t) (gm x b), gm_comm (pe p t) b, ← gm_assoc, UInt8.xor_comm]

/-- The product over other places, as polynomial and as value. -/
def lg (xi : UInt8) : List UInt8 → List UInt8 → List UInt8
  | [], p => p
  | x :: xs, p => lg xi xs (ml x (ov (x ^^^ xi)) p)
def wg (xi t : UInt8) : List UInt8 → UInt8 → UInt8
  | [], a => a
  | x :: xs, a => wg xi t xs (gm a (gm (x ^^^ t) (ov (x ^^^ xi))))
theorem pe_lg (xi t : UInt8) (xs p : List UInt8) : pe (lg xi xs p) t = wg xi t xs (pe p t) := by
  induction xs generalizing p with
  | nil => rfl
  | cons x xs ih => rw [lg, wg, ih, pe_ml, gm_comm, UInt8.xor_comm t x]
theorem xor_eq_zero' {a b : UInt8} (h : a ^^^ b = 0) : a = b := by
  have e : a ^^^ b ^^^ b = b := by rw [h]; simp
  rwa [UInt8.xor_assoc, UInt8.xor_self, UInt8.xor_zero] at e
theorem wg_self (xi : UInt8) (xs : List UInt8) (a : UInt8) (h : xi ∉ xs) : wg xi xi xs a = a := by
  induction xs generalizing a with
  | nil => rfl
  | cons x xs ih =>
    simp only [List.mem_cons, not_or] at h
    rw [wg, gm_ov (fun e => h.1 (xor_eq_zero' e).symm), gm_one, ih _ h.2]
theorem wg_zero (xi t : UInt8) (xs : List UInt8) : wg xi t xs 0 = 0 := by
  induction xs with
  | nil => rfl
  | cons x xs ih => rw [wg, zero_gm, ih]
theorem wg_other (xi t : UInt8) (xs : List UInt8) (a : UInt8) (h : t ∈ xs) : wg xi t xs a = 0 := by
  induction xs generalizing a with
  | nil => simp at h
  | cons x xs ih =>
    rw [wg]
    rcases List.mem_cons.mp h with rfl | h
    · rw [UInt8.xor_self, zero_gm, gm_zero, wg_zero]
    · exact ih _ h

/-- The sum of f's first n values. -/
def xsum (f : Nat → UInt8) : Nat → UInt8
  | 0 => 0
  | n + 1 => xsum f n ^^^ f n
theorem xsum_zero {f : Nat → UInt8} {n : Nat} (h : ∀ i, i < n → f i = 0) : xsum f n = 0 := by
  induction n with
  | zero => rfl
  | succ n ih => rw [xsum, ih (fun i hi => h i (by omega)), h n (by omega)]; rfl
theorem xsum_one {f : Nat → UInt8} {n m : Nat} (hm : m < n) (h : ∀ i, i < n → i ≠ m → f i = 0) : xsum f n = f m := by
  induction n with
  | zero => omega
  | succ n ih =>
    rw [xsum]
    by_cases e : m = n
    · subst e
      rw [xsum_zero (fun i hi => h i (by omega) (by omega))]; simp
    · rw [ih (by omega) (fun i hi => h i (by omega)), h n (by omega) (fun x => e x.symm)]; simp
/-- The value at t of the polynomial through places and values. -/
def lagr (xs ys : List UInt8) (t : UInt8) : UInt8 := xsum (fun i => gm (wg (xs.getD i 0) t (xs.eraseIdx i) 1) (ys.getD i 0)) xs.length
theorem lagr_at {xs ys : List UInt8} (hn : xs.Nodup) {m : Nat} (hm : m < xs.length) : lagr xs ys (xs.getD m 0) = ys.getD m 0 := by
  have hg : ∀ i (hi : i < xs.length), xs.getD i 0 = xs[i] := fun i hi => by rw [List.getD_eq_getElem?_getD, List.getElem?_eq_getElem hi]; rfl
  unfold lagr
  rw [xsum_one (m := m) hm]
  · rw [wg_self, one_gm]
    rw [hg m hm]
    intro hmem
    rw [List.mem_eraseIdx_iff_getElem?] at hmem
    obtain ⟨i, hi, e⟩ := hmem
    obtain ⟨hl, e⟩ := List.getElem?_eq_some_iff.mp e
    rcases Nat.lt_or_gt_of_ne hi with h | h
    · exact List.pairwise_iff_getElem.mp hn _ _ hl hm h e
    · exact List.pairwise_iff_getElem.mp hn _ _ hm hl h e.symm
  · intro i hi hne
    rw [wg_other, zero_gm]
    rw [hg m hm, List.mem_eraseIdx_iff_getElem?]
    exact ⟨m, fun e => hne e.symm, List.getElem?_eq_getElem hm⟩

theorem pa_len (p q : List UInt8) : (pa p q).length = max p.length q.length := by
  induction p generalizing q with
  | nil => simp [pa]
  | cons c p ih =>
    cases q with
    | nil => simp [pa]
    | cons d q => simp only [pa, List.length_cons, ih]; omega
theorem ml_len (x b : UInt8) (p : List UInt8) : (ml x b p).length = p.length + 1 := by
  rw [ml, pa_len]; simp
theorem lg_len (xi : UInt8) (xs p : List UInt8) : (lg xi xs p).length = p.length + xs.length := by
  induction xs generalizing p with
  | nil => rfl
  | cons x xs ih => rw [lg, ih, ml_len, List.length_cons]; omega
def psum (f : Nat → List UInt8) : Nat → List UInt8
  | 0 => []
  | n + 1 => pa (psum f n) (f n)
theorem pe_psum (f : Nat → List UInt8) (n : Nat) (t : UInt8) : pe (psum f n) t = xsum (fun i => pe (f i) t) n := by
  induction n with
  | zero => rfl
  | succ n ih => rw [psum, xsum, pe_pa, ih]
/-- The interpolation as a polynomial. -/
def lagP (xs ys : List UInt8) : List UInt8 := psum (fun i => (lg (xs.getD i 0) (xs.eraseIdx i) [1]).map fun c => gm c (ys.getD i 0)) xs.length
theorem pe_lagP (xs ys : List UInt8) (t : UInt8) : pe (lagP xs ys) t = lagr xs ys t := by
  unfold lagP lagr
  rw [pe_psum]
  congr 1
  funext i
  rw [pe_map, pe_lg]
  congr 2
  simp [pe, gm_zero]

theorem psum_len {f : Nat → List UInt8} {n L : Nat} (h0 : 0 < n) (h : ∀ i, i < n → (f i).length = L) : (psum f n).length = L := by
  induction n with
  | zero => omega
  | succ n ih =>
    rw [psum, pa_len, h n (by omega)]
    by_cases e : n = 0
    · subst e; simp [psum]
    · rw [ih (by omega) (fun i hi => h i (by omega))]; omega
theorem lagP_len (xs ys : List UInt8) : (lagP xs ys).length = xs.length := by
  by_cases h : xs.length = 0
  · simp [lagP, h, psum]
  · refine psum_len (by omega) (fun i hi => ?_)
    rw [List.length_map, lg_len, List.length_eraseIdx_of_lt hi]
    simp; omega

theorem lagP_eq {xs ys p : List UInt8} (hn : xs.Nodup) (hp : p.length = xs.length) (hy : ∀ m, m < xs.length → ys.getD m 0 = pe p (xs.getD m 0)) : lagP xs ys = p := by
  refine agree hn (by rw [lagP_len]; exact Nat.le_refl _) (by rw [lagP_len, hp]) (fun x hx => ?_)
  obtain ⟨m, hm, rfl⟩ := List.getElem_of_mem hx
  have e : xs[m] = xs.getD m 0 := by rw [List.getD_eq_getElem?_getD, List.getElem?_eq_getElem hm]; rfl
  rw [e, pe_lagP, lagr_at hn hm, hy m hm]
theorem pe_pad (p : List UInt8) (n : Nat) (t : UInt8) : pe (p ++ List.replicate n 0) t = pe p t := by
  induction p with
  | nil => exact pe_zeros (fun c hc => (List.mem_replicate.mp hc).2) t
  | cons c p ih => simp only [List.cons_append, pe, ih]
theorem lagr_eq {xs ys p : List UInt8} (hn : xs.Nodup) (hp : p.length ≤ xs.length) (hy : ∀ m, m < xs.length → ys.getD m 0 = pe p (xs.getD m 0)) (t : UInt8) : lagr xs ys t = pe p t := by
  rw [← pe_lagP, lagP_eq (p := p ++ List.replicate (xs.length - p.length) 0) hn (by simp; omega) (fun m hm => by rw [pe_pad, hy m hm]), pe_pad]
end Go.Proofs.Ytbblolggcgonmaa
