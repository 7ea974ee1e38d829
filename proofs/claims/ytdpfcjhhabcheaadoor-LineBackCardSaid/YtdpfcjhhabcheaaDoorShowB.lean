/-
  An event's words as texts; what the walks of Show and Shown keep. No condition. Own work.
-/
import Derived.Test.YtdpfcjhhabcheaaDoorShowP2
import Derived.Test.YtdpfcjhhabcheaaDoorJoinR
import Derived.Deep.AppendLies
namespace Go.Proofs.YtdpfcjhhabcheaaDoor
open Go Go.RowKit

section
variable {ops : Array Oper} {o : Oper} {a : Act} {w : World} {K : Act → World → Prop} {Q : Exit → Act → World → Prop} {EE : Prop}
/-- append(l, x) of texts, as one step of a region that draws. -/
theorem step_pushS1 (hgd : o.guard = none) (s x : Operand) (ho : o.op = .call { callee := .builtin .append, args := #[s, x], argTypes := #[50, 50] }) (B : Nat) (v : Value) (L : List Value) (hs : a.eval s = v) (hO : SlO 9 B v L w)
    (g c : Nat) (n : ByteArray) (hx : a.eval x = .slice (some ⟨g, 0, none⟩) 1 c) (hS : SlC g [.string n] w) (hl : L.length + 1 ≤ 100000) (hB : B ≤ w.heap.size)
    (h : ∀ v' w', SlO 9 B v' (L ++ [.string n]) w' → w.grownBy w' v.ownBlock → Below B w w' → K (a.put o.dst v') w') : if Region.wanted o (yielded ops a.tmps) = true then Oper.wp Tryd.prog o a w K Q else EE := by
  obtain ⟨i0, hi, iz0, iz1, iz2⟩ := info_parts str_inf
  refine step_append_lies w hgd s x 50 ho B 9 i0 (.string ⟨#[]⟩) 1 16 Tryd.underlying50 hi iz0 iz1 iz2 rfl (by decide) v L.length L hs hO ⟨g, 0, none⟩ 1 c [.string n] hx (by simp) (fun j u hu => ?_) (fun u hu => ?_) (by decide) (by unfold maxLen; omega) (by omega) hB w.heap.size rfl (fun g' cap w' h1 h2 _ _ => ?_)
  · have ha : (⟨g, 0, none⟩ : Addr).add j = ⟨g, j, none⟩ := by unfold Addr.add; split <;> simp_all
    rw [ha]
    exact hS.2 j u hu
  · rw [List.mem_singleton] at hu; subst hu; rfl
  · refine h _ w' ?_ h2 ((Below.refl B w).grown h2 hB (fun k hk => (hO.lt k hk).1))
    unfold SlO
    rw [List.length_append]
    exact h1
end

theorem size_alloc1 (w : World) (o : Obj) : (w.alloc o).heap.size = w.heap.size + 1 := by simp
def askT (a : Int × Int) : ByteArray := baL (askW a)
/-- What a walk through a place's words keeps: the place's block, the row of words, the table. -/
abbrev KA (w0 : World) (B b : Nat) (p q : Int) (v : Value) (L : List Value) (w' : World) : Prop := (w'.cell? ⟨b, 0, none⟩ = some (.int .i64 p) ∧ w'.cell? ⟨b, 1, none⟩ = some (.int .i64 q)) ∧ b < w'.heap.size ∧ SlO 9 B v L w' ∧ Tab w' ∧ Below w0.heap.size w0 w'
theorem ka {w0 : World} {B b : Nat} {p q : Int} {v : Value} {L : List Value} : Keeps (KA w0 B b p q v L) := fun _ _ h hb =>
  ⟨⟨(hb.cell (p := ⟨b, 0, none⟩) h.2.1).trans h.1.1, (hb.cell (p := ⟨b, 1, none⟩) h.2.1).trans h.1.2⟩, Nat.lt_of_lt_of_le h.2.1 hb.size, h.2.2.1.below hb, h.2.2.2.1.below hb, bthen h.2.2.2.2 hb⟩
theorem own_drew {w : World} {T : TypeId} {B : Nat} {v : Value} {L : List Value} (h : SlO T B v L w) : SlO T B v L w.drew := h
theorem ask_text (m1 m2 : Nat) : askT ((m1 : Int), (m2 : Int)) = decS m1 ++ (⟨#[58]⟩ : ByteArray) ++ decS m2 := by
  apply ByteArray.ext
  apply Array.toList_inj.1
  simp [askT, askW, baL, decS, ByteArray.data_append]
theorem showB_eq {e : Ev} {s : Shp} (ho : ofW e.word.data.toList = some s) : (showW e).map baL = (e.word :: e.nums.map fun n => decS n.toNat) ++ ((midW s e).map baL ++ e.asks.map askT) := by
  unfold showW
  rw [ho]
  simp [baL_get, Function.comp_def]
  rfl
/-- What a walk through a place's words keeps in the reference: the event's row of places, the place, the row of words. -/
abbrev KB (w0 : World) (B b : Nat) (ad : Addr) (k n c : Nat) (p q : Int) (v : Value) (L : List Value) (w' : World) : Prop :=
  w'.cell? ⟨b, 4, none⟩ = some (.slice (some ad) n c) ∧ (w'.cell? (ad.add k) = some (.int .i64 p) ∧ w'.cell? ⟨(ad.add k).block, (ad.add k).off + 1, none⟩ = some (.int .i64 q)) ∧ b < w'.heap.size ∧ (ad.add k).block < w'.heap.size ∧ SlO 9 B v L w' ∧ Below w0.heap.size w0 w'
theorem kb {w0 : World} {B b : Nat} {ad : Addr} {k n c : Nat} {p q : Int} {v : Value} {L : List Value} : Keeps (KB w0 B b ad k n c p q v L) := fun _ _ h hb =>
  ⟨(hb.cell (p := ⟨b, 4, none⟩) h.2.2.1).trans h.1, ⟨(hb.cell h.2.2.2.1).trans h.2.1.1, (hb.cell (p := ⟨(ad.add k).block, (ad.add k).off + 1, none⟩) h.2.2.2.1).trans h.2.1.2⟩, Nat.lt_of_lt_of_le h.2.2.1 hb.size, Nat.lt_of_lt_of_le h.2.2.2.1 hb.size, h.2.2.2.2.1.below hb, bthen h.2.2.2.2.2 hb⟩
end Go.Proofs.YtdpfcjhhabcheaaDoor
