/-
  Polynomials over the bytes: values, roots, interpolation. No program in sight. No condition. Own work.
-/
import Derived.Test.YtbblolggcgonmaaField
namespace Go.Proofs.Ytbblolggcgonmaa

/-- The value of a polynomial (its lowest coefficient first) at x. -/
def pe : List UInt8 → UInt8 → UInt8
  | [], _ => 0
  | c :: p, x => c ^^^ gm x (pe p x)
/-- The sum of two. -/
def pa : List UInt8 → List UInt8 → List UInt8
  | [], q => q
  | p, [] => p
  | c :: p, d :: q => (c ^^^ d) :: pa p q
/-- The quotient by (X - r). -/
def pq (r : UInt8) : List UInt8 → List UInt8
  | [] => []
  | _ :: p => match p with
    | [] => []
    | d :: p' => pe (d :: p') r :: pq r (d :: p')

theorem pq_length (r : UInt8) (p : List UInt8) : (pq r p).length = p.length - 1 := by
  induction p with
  | nil => rfl
  | cons c p ih =>
    cases p with
    | nil => rfl
    | cons d p' => simp only [pq, List.length_cons] at ih ⊢; omega

theorem x3 (a b c : UInt8) : a ^^^ b ^^^ (a ^^^ c) = b ^^^ c := by
  have : a ^^^ b ^^^ (a ^^^ c) = (a ^^^ a) ^^^ (b ^^^ c) := by ac_rfl
  simp [this]

/-- p(x) = (x - r) q(x) + p(r). -/
theorem pe_pq (r x : UInt8) (p : List UInt8) : pe p x = gm (x ^^^ r) (pe (pq r p) x) ^^^ pe p r := by
  induction p with
  | nil => simp [pe, pq, gm_zero]
  | cons c p ih =>
    cases p with
    | nil => simp [pe, pq, gm_zero]
    | cons d p' =>
      have e1 : pe (c :: d :: p') x = c ^^^ gm x (pe (d :: p') x) := rfl
      have e2 : pe (c :: d :: p') r = c ^^^ gm r (pe (d :: p') r) := rfl
      have e3 : pe (pq r (c :: d :: p')) x = pe (d :: p') r ^^^ gm x (pe (pq r (d :: p')) x) := rfl
      rw [e1, e2, e3, ih]
      generalize pe (d :: p') r = v
      generalize pe (pq r (d :: p')) x = u
      simp only [gm_xor, xor_gm]
      have h1 : gm x (gm r u) = gm r (gm x u) := by rw [← gm_assoc, gm_comm x r, gm_assoc]
      rw [h1]
      generalize gm x (gm x u) = A
      generalize gm r (gm x u) = B
      generalize gm x v = C
      generalize gm r v = D
      have : C ^^^ D ^^^ (A ^^^ B) ^^^ (c ^^^ D) = (D ^^^ D) ^^^ (c ^^^ (A ^^^ B ^^^ C)) := by ac_rfl
      rw [this]
      simp

def zeros (p : List UInt8) : Prop := ∀ c, c ∈ p → c = 0

theorem pe_zeros {p : List UInt8} (h : zeros p) (x : UInt8) : pe p x = 0 := by
  induction p with
  | nil => rfl
  | cons c p ih =>
    simp only [pe]
    rw [h c (by simp), ih (fun d hd => h d (by simp [hd])), gm_zero]
    simp

theorem zeros_of_pq {r : UInt8} {p : List UInt8} (h : zeros (pq r p)) (hr : pe p r = 0) : zeros p := by
  induction p with
  | nil => exact fun c hc => absurd hc (by simp)
  | cons c p ih =>
    cases p with
    | nil =>
      simp only [pe, gm_zero] at hr
      intro d hd
      simp only [List.mem_singleton] at hd
      subst hd
      simpa using hr
    | cons d p' =>
      have e1 : pe (d :: p') r = 0 := h _ (by simp [pq])
      have e2 : pe (c :: d :: p') r = c ^^^ gm r (pe (d :: p') r) := rfl
      rw [e2, e1, gm_zero] at hr
      have hz : zeros (d :: p') := ih (fun y hy => h y (by simp only [pq]; exact List.mem_cons_of_mem _ hy)) e1
      intro y hy
      rcases List.mem_cons.mp hy with rfl | hy
      · simpa using hr
      · exact hz y hy

/-- A polynomial with as many roots, all apart, as it has coefficients is 0. -/
theorem roots {l : List UInt8} (hn : l.Nodup) : ∀ {p : List UInt8}, p.length ≤ l.length → (∀ x, x ∈ l → pe p x = 0) → zeros p := by
  induction l with
  | nil => intro p hp _ c hc; have : p = [] := by simpa using hp
           rw [this] at hc; simp at hc
  | cons r l ih =>
    intro p hp h
    have hr := h r (by simp)
    refine zeros_of_pq (r := r) (ih (List.nodup_cons.mp hn).2 (by rw [pq_length]; simp at hp; omega) (fun x hx => ?_)) hr
    have h1 := h x (by simp [hx])
    rw [pe_pq r x p, hr] at h1
    have h2 : gm (x ^^^ r) (pe (pq r p) x) = 0 := by simpa using h1
    rcases gm_eq_zero h2 with h3 | h3
    · have : x = r := by
        have e : x ^^^ r ^^^ r = r := by rw [h3]; simp
        rwa [UInt8.xor_assoc, UInt8.xor_self, UInt8.xor_zero] at e
      subst this
      exact absurd hx (List.nodup_cons.mp hn).1
    · exact h3

theorem pe_pa (p q : List UInt8) (x : UInt8) : pe (pa p q) x = pe p x ^^^ pe q x := by
  induction p generalizing q with
  | nil => simp [pa, pe]
  | cons c p ih =>
    cases q with
    | nil => simp [pa, pe]
    | cons d q =>
      simp only [pa, pe, ih, gm_xor]
      ac_rfl
theorem pa_length (p q : List UInt8) (h : p.length = q.length) : (pa p q).length = p.length := by
  induction p generalizing q with
  | nil => cases q with
    | nil => rfl
    | cons d q => simp at h
  | cons c p ih =>
    cases q with
    | nil => simp at h
    | cons d q => simp only [pa, List.length_cons]; rw [ih]; simpa using h
theorem pa_zeros {p q : List UInt8} (h : p.length = q.length) (hz : zeros (pa p q)) : p = q := by
  induction p generalizing q with
  | nil => cases q with
    | nil => rfl
    | cons d q => simp at h
  | cons c p ih =>
    cases q with
    | nil => simp at h
    | cons d q =>
      have h1 : c ^^^ d = 0 := hz _ (by simp [pa])
      have h2 := ih (q := q) (by simpa using h) (fun y hy => hz y (by simp [pa, hy]))
      have h3 : c = d := by
        have e : c ^^^ d ^^^ d = d := by rw [h1]; simp
        rwa [UInt8.xor_assoc, UInt8.xor_self, UInt8.xor_zero] at e
      rw [h2, h3]
/-- Two polynomials of as many coefficients as there are places, all apart, where they agree, are the same. -/
theorem agree {l p q : List UInt8} (hn : l.Nodup) (hp : p.length ≤ l.length) (hpq : p.length = q.length) (h : ∀ x, x ∈ l → pe p x = pe q x) : p = q :=
  pa_zeros hpq (roots hn (by rw [pa_length p q hpq]; exact hp) (fun x hx => by rw [pe_pa, h x hx]; simp))
end Go.Proofs.Ytbblolggcgonmaa
