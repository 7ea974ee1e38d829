/-
  The contracts of custody.Join and of the examples of chapter 37. No condition. Own work.
-/
import Derived.Test.YtbblolggcgonmaaValue
namespace Go.Proofs.Ytbblolggcgonmaa
open Go.RowKit

def sharesL (s n : List UInt8) (k j : Nat) : List Sh := (List.range j).map fun x => (UInt8.ofNat (x + 1), ⟨(shareL s n k (UInt8.ofNat (x + 1))).toArray⟩)
theorem sharesV_eq (s n : List UInt8) (k j : Nat) : sharesV s n k j = ((sharesL s n k j).map shCells).flatten := by
  unfold sharesV sharesL
  rw [List.map_map]
  rfl
theorem sharesL_len (s n : List UInt8) (k j : Nat) : (sharesL s n k j).length = j := by simp [sharesL]

theorem join_no (L : List Sh) (A : Option Addr) (cap : Nat) (w : World) (hA : ShAt w w.heap.size A L) (hlen : L.length ≤ 1099511627776) (h : ¬ MayOk L) :
    Calls Try.prog 31 #[.slice A L.length cap] w fun e w' => e = .returned (.tuple #[.string ⟨#[]⟩, .int .i64 2]) ∧ Below w.heap.size w w' := by
  have hm := may_any L A cap w hA hlen
  rw [decide_eq_false h] at hm
  generalize L.length = len at *
  have HM := Lib.hid hm
  clear hm h hA
  go_enter Try.func31, Try.ntmps31
  go_wp2_with (go_at_call 46; (with_reducible refine HM.out.mono ?_); rintro e w1 ⟨rfl, hb1⟩)
  go_ret2
  exact ⟨rfl, hb1⟩

theorem join_yes (L : List Sh) (A : Option Addr) (cap n : Nat) (w : World) (hA : ShAt w w.heap.size A L) (hlen : L.length ≤ 1099511627776) (h : MayOk L) (hn : ∀ p ∈ L, p.2.size = n) :
    Calls Try.prog 31 #[.slice A L.length cap] w fun e w' => e = .returned (.tuple #[.string ⟨(valueL L 0 n).toArray⟩, .int .i64 0]) ∧ Below w.heap.size w w' := by
  have hm := may_any L A cap w hA hlen
  rw [decide_eq_true h] at hm
  obtain ⟨p0, L', rfl, h1, h2, hg⟩ := h
  have hn0 := hn p0 (by simp)
  have hv : ∀ w, ShAt w w.heap.size A (p0 :: L') → Calls Try.prog 47 #[.slice A (p0 :: L').length cap, .int .u8 0] w fun e w' => e = .returned (.string ⟨(valueL (p0 :: L') 0 n).toArray⟩) ∧ Below w.heap.size w w' := fun w h => value_any (p0 :: L') A cap 0 n w h hlen (by simp) hn (by omega)
  have HA := Lib.hid hA
  generalize (p0 :: L').length = len at *
  generalize (p0 :: L') = L at *
  generalize (⟨(valueL L 0 n).toArray⟩ : ByteArray) = R at *
  have HM := Lib.hid hm
  have HV := Lib.hid hv
  clear hm hg hA hv hn
  go_enter Try.func31, Try.ntmps31
  go_wp2_with (first
    | (go_at_call 46; (with_reducible refine HM.out.mono ?_); rintro e w1 ⟨rfl, hb1⟩)
    | (go_at_call 47; (with_reducible refine (HV.out _ (HA.out.up hb1 hb1.size)).mono ?_); rintro e w2 ⟨rfl, hb2⟩))
  go_ret2
  exact ⟨rfl, bthen hb1 hb2⟩

theorem alive_shares : sharesL [97] [] 1 3 = [(1, ⟨#[97]⟩), (2, ⟨#[97]⟩), (3, ⟨#[97]⟩)] := by kernel_rfl
theorem alive_value : valueL [(1, ⟨#[97]⟩), (2, ⟨#[97]⟩), (3, ⟨#[97]⟩)] 0 1 = [97] := by decide +kernel
theorem alive_may : MayOk [(1, ⟨#[97]⟩), (2, ⟨#[97]⟩), (3, ⟨#[97]⟩)] := by decide +kernel

theorem custody_alive (w : World) : Calls Try.prog 23 #[] w fun e w' => e = .returned (.bool true) ∧ Below w.heap.size w w' := by
  have hs := fun w => split_ok ⟨#[97]⟩ ⟨#[]⟩ 1 3 (by decide) (by decide) (by decide) (by decide) (by decide) (by decide) w
  have hj : ∀ g cap w, ShAt w w.heap.size (some ⟨g, 0, none⟩) [(1, ⟨#[97]⟩), (2, ⟨#[97]⟩), (3, ⟨#[97]⟩)] → Calls Try.prog 31 #[.slice (some ⟨g, 0, none⟩) 3 cap] w fun e w' => e = .returned (.tuple #[.string ⟨#[97]⟩, .int .i64 0]) ∧ Below w.heap.size w w' := fun g cap w h => by
    have := join_yes [(1, ⟨#[97]⟩), (2, ⟨#[97]⟩), (3, ⟨#[97]⟩)] (some ⟨g, 0, none⟩) cap 1 w h (by decide) alive_may (by decide)
    rw [alive_value] at this
    exact this
  have HS := Lib.hid hs
  have HJ := Lib.hid hj
  clear hs hj
  go_enter Try.func23, Try.ntmps23
  go_wp2_with fail
  refine (HS.out _).mono ?_
  rintro e w1 ⟨⟨v, rfl, hown⟩, hb1⟩
  have hown' := hown
  obtain ⟨g, cap, rfl, hgb, hgl⟩ := hown.form (by omega)
  have hsh : ShAt w1 w1.heap.size (some ⟨g, 0, none⟩) [(1, ⟨#[97]⟩), (2, ⟨#[97]⟩), (3, ⟨#[97]⟩)] := by
    refine ShAt.own hown' rfl ?_ hgl
    rw [sharesV_eq]
    exact congrArg (fun l => (l.map shCells).flatten) alive_shares
  obtain ⟨hc4, hc5⟩ : w1.cell? ⟨g, 4, none⟩ = some (.int .u8 3) ∧ w1.cell? ⟨g, 5, none⟩ = some (.string ⟨#[97]⟩) := by
    obtain ⟨ad, e, h1, h2, h3⟩ := hsh.get (j := 2) rfl
    cases e
    exact ⟨h2, h3⟩
  have HSH := Lib.hid hsh
  clear hown hown' hsh
  go_wp2_with (go_at_call 31; (with_reducible refine (HJ.out _ _ _ HSH.out).mono ?_); rintro e w2 ⟨rfl, hb2⟩; have k4 := (hb2.cell (p := ⟨g, 4, none⟩) hgl).trans hc4; have k5 := (hb2.cell (p := ⟨g, 5, none⟩) hgl).trans hc5)
  go_ret
  exact ⟨rfl, bthen hb1 hb2⟩
end Go.Proofs.Ytbblolggcgonmaa
