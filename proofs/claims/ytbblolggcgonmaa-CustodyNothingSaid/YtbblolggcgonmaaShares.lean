/-
  Shares in memory: a slice of them, from anywhere; the contract of custody.may. No condition. Own work.
-/
import Derived.Test.YtbblolggcgonmaaSplit
import Derived.Test.YtbblolggcgonmaaRows2
import Derived.Maps.OwnOps
import Derived.Maps.Views
namespace Go.Proofs.Ytbblolggcgonmaa
open Go.RowKit Go.ChangeMaps Go.Maps

abbrev Sh := UInt8 × ByteArray
def shCells (p : Sh) : List Value := [bv p.1, .string p.2]
/-- A slice of shares, below block B. -/
def ShAt (w : World) (B : Nat) (A : Option Addr) (L : List Sh) : Prop := RowsAt w B A L.length 2 (L.map shCells)
theorem ShAt.below {w w' : World} {B : Nat} {A : Option Addr} {L : List Sh} (h : ShAt w B A L) (hb : Below B w w') : ShAt w' B A L := RowsAt.below h hb
theorem ShAt.get {w : World} {B : Nat} {A : Option Addr} {L : List Sh} (h : ShAt w B A L) {j : Nat} {p : Sh} (hj : L[j]? = some p) :
    ∃ ad, A = some ad ∧ ad.block < B ∧ w.cell? (ad.add (j * 2)) = some (bv p.1) ∧ w.cell? ⟨(ad.add (j * 2)).block, (ad.add (j * 2)).off + 1, none⟩ = some (.string p.2) := by
  have hl : j < L.length := (List.getElem?_eq_some_iff.mp hj).1
  obtain ⟨ad, e, hb, hc⟩ := h.lies (by omega)
  have hcx := (hc j (shCells p) (by rw [List.getElem?_map, hj]; rfl)).2
  have h0 := hcx 0 (by omega)
  have h1 := hcx 1 (by omega)
  rw [show j * 2 + 0 = j * 2 from by omega] at h0
  rw [← add_add'] at h1
  exact ⟨ad, e, hb, h0, h1⟩
theorem ShAt.get0 {w : World} {B : Nat} {A : Option Addr} {L : List Sh} (h : ShAt w B A L) {p : Sh} (hj : L[0]? = some p) :
    ∃ ad, A = some ad ∧ ad.block < B ∧ w.cell? ad = some (bv p.1) ∧ w.cell? ⟨ad.block, ad.off + 1, none⟩ = some (.string p.2) := by
  obtain ⟨ad, e, hb, h0, h1⟩ := h.get hj
  have e0 : ad.add (0 * 2) = ad := rfl
  rw [e0] at h0 h1
  exact ⟨ad, e, hb, h0, h1⟩
theorem flat_get : ∀ (L : List Sh) (i j : Nat) (p : Sh), L[i]? = some p → j < 2 → (L.map shCells).flatten[i * 2 + j]? = (shCells p)[j]?
  | [], _, _, _, h, _ => by simp at h
  | q :: L, 0, j, p, h, hj => by
    simp at h; subst h
    match j, hj with
    | 0, _ => rfl
    | 1, _ => rfl
  | q :: L, i + 1, j, p, h, hj => by
    have := flat_get L i j p (by simpa using h) hj
    rw [List.map_cons, List.flatten_cons, show (i + 1) * 2 + j = (i * 2 + j) + 2 from by omega]
    exact this
/-- An owned row of shares. -/
theorem ShAt.own {w : World} {base g n cap : Nat} {e : TypeId} {L : List Sh} {xs : List Value} (h : w.ownsRow base e 2 (.slice (some ⟨g, 0, none⟩) n cap) n xs) (hn : n = L.length) (hx : xs = (L.map shCells).flatten) (hB : g < w.heap.size) : ShAt w w.heap.size (some ⟨g, 0, none⟩) L := by
  subst hn hx
  refine ⟨by simp, fun _ => ⟨_, rfl, hB, fun i cs hi => ?_⟩⟩
  rw [List.getElem?_map] at hi
  cases hl : L[i]? with
  | none => rw [hl] at hi; cases hi
  | some p =>
    rw [hl] at hi
    obtain rfl : shCells p = cs := by simpa using hi
    refine ⟨rfl, fun j hj => ?_⟩
    have hil : i < L.length := (List.getElem?_eq_some_iff.mp hl).1
    have ha : (⟨g, 0, none⟩ : Addr).add (i * 2 + j) = ⟨g, i * 2 + j, none⟩ := by unfold Addr.add; split <;> simp_all
    rw [ha, h.cellAt _ (by omega)]
    exact flat_get L i j p hl hj

theorem plainElem_bool_inv {H : Type} {P : Program} {e : TypeId} (he : P.underlying e = some .bool) {v : Value} {z : DataW H × List MemPlace} (h : plainElem P e v = some z) : ∃ a, v = .bool a ∧ z = (.lit (.bool a), []) := by
  unfold plainElem at h
  rw [he] at h
  cases v <;> simp at h
  exact ⟨_, rfl, h.symm⟩
/-- 'm[k]' in a map of bools. -/
theorem lookup_bool {H : Type} {P : Program} {w : World} {k t e : TypeId} {b n : Nat} {D : DataW H} (h : w.ownsMap P k (plainElem P e) b n D) (K : Keyed P k) (ht : P.underlying t = some (.map k e)) (he : P.underlying e = some .bool) (hz : (zeroValue e).run P w = .ok (.bool false) w)
    {key : Value} {kl : Lit} (hkey : keyOf P k key = some kl) : ∃ c, (Instr.lookup t (.map (some b)) key false).run P w = .ok (.bool c) w ∧ D.atKey kl (.lit (.bool false)) = .lit (.bool c) := by
  obtain ⟨v, ps, hrun, hv⟩ := h.lookup K ht hz (plainElem_bool he false) hkey
  obtain ⟨c, rfl, hc⟩ := plainElem_bool_inv he hv
  simp only [Prod.mk.injEq] at hc
  exact ⟨c, hrun, hc.1⟩

/-- The set of some bytes. -/
def setD (l : List UInt8) : DataW Unit := l.foldl (fun D x => D.put (.int .u8 ((x.toNat : Nat) : Int)) (.lit (.bool true))) (.map [])
theorem setD_snoc (l : List UInt8) (x : UInt8) : setD (l ++ [x]) = (setD l).put (.int .u8 ((x.toNat : Nat) : Int)) (.lit (.bool true)) := by simp [setD]
theorem setD_map (l : List UInt8) : IsMap (setD l) := by
  unfold setD
  have : ∀ (l : List UInt8) (D : DataW Unit), IsMap D → IsMap (l.foldl (fun D x => D.put (.int .u8 ((x.toNat : Nat) : Int)) (.lit (.bool true))) D) := by
    intro l
    induction l with
    | nil => exact fun D h => h
    | cons x l ih => exact fun D h => ih _ (h.put _ _)
  exact this l _ isMap_empty
theorem putD_at (x : UInt8) : ∀ (l : List UInt8) (D : DataW Unit), IsMap D → (l.foldl (fun D x => D.put (.int .u8 ((x.toNat : Nat) : Int)) (.lit (.bool true))) D).atKey (.int .u8 ((x.toNat : Nat) : Int)) (.lit (.bool false)) = if x ∈ l then .lit (.bool true) else D.atKey (.int .u8 ((x.toNat : Nat) : Int)) (.lit (.bool false))
  | [], D, _ => by simp
  | y :: l, D, hD => by
    rw [List.foldl_cons, putD_at x l _ (hD.put _ _)]
    by_cases hl : x ∈ l
    · rw [if_pos hl, if_pos (by simp [hl])]
    · rw [if_neg hl]
      by_cases h : x = y
      · subst h
        rw [atKey_put_same hD (by trivial), if_pos (by simp)]
      · rw [atKey_put_other, if_neg (by simp [hl, h])]
        intro e
        injection e with _ e
        exact h (UInt8.toNat_inj.mp (by omega))
theorem setD_at (l : List UInt8) (x : UInt8) : (setD l).atKey (.int .u8 ((x.toNat : Nat) : Int)) (.lit (.bool false)) = .lit (.bool (decide (x ∈ l))) := by
  unfold setD
  rw [putD_at x l _ isMap_empty]
  by_cases h : x ∈ l
  · rw [if_pos h]; simp [h]
  · rw [if_neg h]; simp [h, DataW.atKey]
end Go.Proofs.Ytbblolggcgonmaa
