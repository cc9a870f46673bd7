/- An append that keeps the old slice readable. -/
import Derived.Test.YtkcbdnaampiedaaLN
namespace Go.Proofs.Ytkcbdnaampiedaa
open Go.RowKit

section
variable {P : Program} {S T : TypeId} {k : IntKind} {by8 : Nat}
theorem app_old (it : IntT P S T k by8) (w : World) (ty : TypeId) (base g n c : Nat) (l : List Int) (hown : Own k T w base (some ⟨g, 0, none⟩) n c l) (ad : Addr) (m c2 : Nat) (l2 : List Int) (hcells : ∀ j u, (l2.map (Value.int k))[j]? = some u → w.cell? (ad.add j) = some u) (hl2 : l2.length = m)
    (hlen : n + m ≤ 1099511627776) {v' : Value} {w' : World} (hrun : (Builtin.append_ #[S, S] ty #[.slice (some ⟨g, 0, none⟩) n c, .slice (some ad) m c2]).run P w = .ok v' w') : Nums k w' (some ⟨g, 0, none⟩) n c l := by
  obtain ⟨i, hi, hz0, hz1, hz2⟩ := info_parts it.info
  have hsm := it.small
  by_cases hroom : n + m ≤ c
  · have hown' := hown
    rcases hown.2.1.2 with ⟨hv, _⟩ | ⟨g', cap, cur, hv, hb, hh, hnc, hcm, hcs, htk⟩
    · injection hv with hv; cases hv
    injection hv with hv _ hcc
    injection hv with hv
    injection hv with e1
    subst e1 hcc
    have hr := run_append_room (P := P) w S ty T i it.und hi g n c cur hh ad m c2 (l2.map (Value.int k)) (by rw [List.length_map, hl2, hz1, Nat.mul_one]) hcells (ints_oneCell k l2) hroom (by rw [hz1, List.length_map, hl2, hcs]; omega)
    rw [hr] at hrun
    injection hrun with _ hw
    subst hw
    refine ⟨hown.1, by omega, hcm, hown.2.2, fun _ => ⟨g, 0, rfl, by simpa using (Array.getElem?_eq_some_iff.1 hh).1, fun j hj => ?_⟩⟩
    have hcell := cell_of_row _ g j _ _ _ (setRow_heap w g cur (cur.toList.take (n * i.size) ++ l2.map (Value.int k) ++ cur.toList.drop (n * i.size + (l2.map (Value.int k)).length)).toArray T _ hh)
    rw [Nat.zero_add, hcell]
    have hjn : j < n := by rw [← hown.1]; exact hj
    rw [hz1]
    rw [htk]
    simp only [List.getElem?_toArray, List.append_assoc]
    rw [List.getElem?_append_left (by simpa using hj), List.getElem?_map, List.getElem?_eq_getElem hj]
    rfl
  · have hr := run_append_grow (P := P) w S ty T i (.int k 0) it.und hi hz0 ⟨g, 0, none⟩ n c (l.map (Value.int k)) (by rw [List.length_map, hown.1, hz1, Nat.mul_one]) (hown.2.1.cells (g := g) rfl) ad m c2 (l2.map (Value.int k)) (by rw [List.length_map, hl2, hz1, Nat.mul_one]) hcells (by omega) (by omega)
      (growslice_fits (by omega) (by rw [hz2]; have : (n + m) * by8 ≤ (n + m) * 8 := Nat.mul_le_mul_left _ hsm; omega))
    rw [hr] at hrun
    injection hrun with _ hw
    subst hw
    exact hown.reads.e (((E.refl w).drew).alloc _)
theorem wpList_app1o (it : IntT P S T k by8) (w : World) {ops : Array Oper} {rest : List Oper} {o : Oper} {a : Act} {Q : Exit → Act → World → Prop} (hgd : o.guard = none) (s x : Operand)
    (ho : o.op = .call { callee := .builtin .append, args := #[s, x], argTypes := #[S, S] })
    (base : Nat) (g n c : Nat) (l : List Int) (hs : a.eval s = .slice (some ⟨g, 0, none⟩) n c) (hown : Own k T w base (some ⟨g, 0, none⟩) n c l)
    (v : Int) (hx : a.eval x = .slice (some ⟨w.heap.size, 0, none⟩) 1 1) (hwf : (Lit.int k v).wf = true)
    (hlen : n + 1 ≤ 1099511627776) (hbase : base ≤ w.heap.size)
    (h : ∀ A' c' w', Own k T w' base A' (n + 1) c' (l ++ [v]) → w.grownBy w' (some g) → Nums k w' (some ⟨g, 0, none⟩) n c l → wpList P ops Q rest (a.put o.dst (.slice A' (n + 1) c')) w') :
    wpList P ops Q (o :: rest) a (w.alloc (.cells #[.int k v] T)) := by
  have hE := (E.refl w).alloc (.cells #[.int k v] T)
  have hcell := cell_new w (.int k v) T
  have hN : Nums k (w.alloc (.cells #[.int k v] T)) (some ⟨w.heap.size, 0, none⟩) 1 1 [v] := ⟨rfl, Nat.le_refl _, by unfold maxLen; omega, by intro y hy; simp at hy; subst hy; exact hwf, fun _ => ⟨w.heap.size, 0, rfl, by simp, fun i hi => by
    have : i = 0 := by simpa using hi
    subst this; exact hcell⟩⟩
  obtain ⟨A', c', w', hrun, hO, h3, _⟩ := run_appN it (w.alloc (.cells #[.int k v] T)) o.type base _ n c l (hown.e hE) _ 1 1 [v] hN hlen (by simp; omega)
  have hcell0 : (w.alloc (.cells #[.int k v] T)).cell? ((⟨w.heap.size, 0, none⟩ : Addr).add 0) = some (.int k v) := by rw [add_plain]; exact hcell
  have hold := app_old it (w.alloc (.cells #[.int k v] T)) o.type base g n c l (hown.e hE) ⟨w.heap.size, 0, none⟩ 1 1 [v] (by
    intro j u hu
    cases j with
    | zero => simp at hu; subst hu; exact hcell0
    | succ j => simp at hu) rfl hlen hrun
  refine wpList_plain hgd fun K hK' => ?_
  unfold Oper.wp execOp
  simp only [ho, resolve, invoke, builtin, Sem.run_bind, Sem.run_pure, Result.andThen_ok, List.map_toArray, List.map_cons, List.map_nil, hs, hx, hrun]
  exact hK' _ _ (h A' c' w' hO (grown_of_alloc h3) hold)
theorem step_app1o (it : IntT P S T k by8) (w : World) {ops : Array Oper} {o : Oper} {a : Act} {K : Act → World → Prop} {Q : Exit → Act → World → Prop} {R : Prop} (hgd : o.guard = none) (s x : Operand)
    (ho : o.op = .call { callee := .builtin .append, args := #[s, x], argTypes := #[S, S] })
    (base : Nat) (g n c : Nat) (l : List Int) (hs : a.eval s = .slice (some ⟨g, 0, none⟩) n c) (hown : Own k T w base (some ⟨g, 0, none⟩) n c l)
    (v : Int) (hx : a.eval x = .slice (some ⟨w.heap.size, 0, none⟩) 1 1) (hwf : (Lit.int k v).wf = true)
    (hlen : n + 1 ≤ 1099511627776) (hbase : base ≤ w.heap.size)
    (h : ∀ A' c' w', Own k T w' base A' (n + 1) c' (l ++ [v]) → w.grownBy w' (some g) → Nums k w' (some ⟨g, 0, none⟩) n c l → K (a.put o.dst (.slice A' (n + 1) c')) w') :
    if Region.wanted o (yielded ops a.tmps) = true then Oper.wp P o a (w.alloc (.cells #[.int k v] T)) K Q else R := by
  have hw : Region.wanted o (yielded ops a.tmps) = true := by simp [Region.wanted, hgd]
  rw [if_pos hw]
  have hE := (E.refl w).alloc (.cells #[.int k v] T)
  have hcell := cell_new w (.int k v) T
  have hN : Nums k (w.alloc (.cells #[.int k v] T)) (some ⟨w.heap.size, 0, none⟩) 1 1 [v] := ⟨rfl, Nat.le_refl _, by unfold maxLen; omega, by intro y hy; simp at hy; subst hy; exact hwf, fun _ => ⟨w.heap.size, 0, rfl, by simp, fun i hi => by
    have : i = 0 := by simpa using hi
    subst this; exact hcell⟩⟩
  obtain ⟨A', c', w', hrun, hO, h3, _⟩ := run_appN it (w.alloc (.cells #[.int k v] T)) o.type base _ n c l (hown.e hE) _ 1 1 [v] hN hlen (by simp; omega)
  have hcell0 : (w.alloc (.cells #[.int k v] T)).cell? ((⟨w.heap.size, 0, none⟩ : Addr).add 0) = some (.int k v) := by rw [add_plain]; exact hcell
  have hold := app_old it (w.alloc (.cells #[.int k v] T)) o.type base g n c l (hown.e hE) ⟨w.heap.size, 0, none⟩ 1 1 [v] (by
    intro j u hu
    cases j with
    | zero => simp at hu; subst hu; exact hcell0
    | succ j => simp at hu) rfl hlen hrun
  unfold Oper.wp execOp
  simp only [ho, resolve, invoke, builtin, Sem.run_bind, Sem.run_pure, Result.andThen_ok, List.map_toArray, List.map_cons, List.map_nil, hs, hx, hrun]
  exact h A' c' w' hO (grown_of_alloc h3) hold
end
end Go.Proofs.Ytkcbdnaampiedaa
