/- Rows of pairs of the call's own; Amounts. -/
import Derived.Test.YtbpfdogjjoceaaaF
namespace Go.Proofs.Ytbpfdogjjoceaaa
open Go.RowKit

def flat2 (l : List (Int × Int)) : List Value := l.flatMap fun p => [.int .i64 p.1, .int .i64 p.2]
theorem flat2_len (l : List (Int × Int)) : (flat2 l).length = l.length * 2 := by
  induction l with
  | nil => rfl
  | cons x l ih => simp [flat2] at ih ⊢; omega
theorem flat2_at (l : List (Int × Int)) (i : Nat) (x : Int × Int) (h : l[i]? = some x) : (flat2 l)[i * 2]? = some (.int .i64 x.1) ∧ (flat2 l)[i * 2 + 1]? = some (.int .i64 x.2) := by
  induction l generalizing i with
  | nil => simp at h
  | cons y l ih =>
    have e : flat2 (y :: l) = .int .i64 y.1 :: .int .i64 y.2 :: flat2 l := rfl
    cases i with
    | zero => simp at h; subst h; rw [e]; simp
    | succ i =>
      have := ih i (by simpa using h)
      rw [e, show (i + 1) * 2 = i * 2 + 1 + 1 by omega]
      simpa using this
theorem flat2_snoc (l : List (Int × Int)) (x y : Int) : flat2 (l ++ [(x, y)]) = flat2 l ++ [.int .i64 x, .int .i64 y] := by simp [flat2]
theorem flat2_one (l : List (Int × Int)) : ∀ u ∈ flat2 l, u.oneCell' = true := by
  intro u hu
  simp only [flat2, List.mem_flatMap] at hu
  obtain ⟨p, _, hp⟩ := hu
  simp at hp
  rcases hp with rfl | rfl <;> rfl

/-- A row of the call's own, from block base on, that holds the pairs l (T: the struct's type). -/
def OwnP (T : TypeId) (w : World) (base : Nat) (A : Option Addr) (n c : Nat) (l : List (Int × Int)) : Prop :=
  l.length = n ∧ w.ownsRow base T 2 (.slice A n c) n (flat2 l) ∧ ∀ x ∈ l, (Lit.int .i64 x.1).wf = true ∧ (Lit.int .i64 x.2).wf = true

section
variable {T : TypeId} {w w' : World} {base base' : Nat} {A : Option Addr} {n c : Nat} {l : List (Int × Int)}
theorem OwnP.nil (T : TypeId) (w : World) (base : Nat) : OwnP T w base none 0 0 [] := ⟨rfl, World.ownsRow_nil _ _ _ _, by simp⟩
theorem OwnP.form (h : OwnP T w base A n c l) : (A = none ∧ n = 0 ∧ c = 0) ∨ ∃ g, A = some ⟨g, 0, none⟩ ∧ base ≤ g ∧ g < w.heap.size ∧ n ≤ c ∧ c ≤ maxLen := by
  obtain ⟨h1, h2, h3⟩ := h
  rcases h2.2 with ⟨hv, hn⟩ | ⟨g, cap, cur, hv, hb, hh, hnc, hcm, _, _⟩
  · left; injection hv with e1 e2 e3; exact ⟨e1, e2, e3⟩
  · right
    injection hv with e1 e2 e3
    subst e1 e3
    refine ⟨g, rfl, hb, ?_, hnc, hcm⟩
    rcases Nat.lt_or_ge g w.heap.size with hlt | hge
    · exact hlt
    · rw [Array.getElem?_eq_none hge] at hh; cases hh
theorem OwnP.reads (h : OwnP T w base A n c l) : Pairs w A n c l := by
  have hf := h.form
  obtain ⟨h1, h2, h3⟩ := h
  refine ⟨h1, ?_, ?_, h3, fun hn => ?_⟩
  · rcases hf with ⟨_, h, _⟩ | ⟨_, _, _, _, h, _⟩ <;> omega
  · rcases hf with ⟨_, _, h⟩ | ⟨_, _, _, _, _, h⟩ <;> (unfold maxLen at *; omega)
  · rcases hf with ⟨_, h, _⟩ | ⟨g, rfl, _, hlt, hnc, hcm⟩
    · omega
    · refine ⟨g, 0, rfl, hlt, fun i hi => ?_⟩
      have hf := flat2_at l i _ (List.getElem?_eq_getElem hi)
      constructor
      · rw [Nat.zero_add, World.ownsRow.cellAt h2 _ (by omega)]; exact hf.1
      · rw [Nat.zero_add, World.ownsRow.cellAt h2 _ (by omega)]; exact hf.2
theorem OwnP.e (h : OwnP T w base A n c l) (he : E w w') : OwnP T w' base A n c l := by
  obtain ⟨h1, h2, h3⟩ := h
  refine ⟨h1, ?_, h3⟩
  obtain ⟨a1, a2⟩ := h2
  refine ⟨a1, ?_⟩
  rcases a2 with a2 | ⟨g, cap, cur, hv, hb, hh, r⟩
  · exact .inl a2
  · refine .inr ⟨g, cap, cur, hv, hb, ?_, r⟩
    have hlt : g < w.heap.size := by
      rcases Nat.lt_or_ge g w.heap.size with hlt | hge
      · exact hlt
      · rw [Array.getElem?_eq_none hge] at hh; cases hh
    rw [he.block hlt]; exact hh
theorem OwnP.rebase (h : OwnP T w base A n c l) (hb : base' ≤ base) : OwnP T w base' A n c l := by
  obtain ⟨h1, ⟨a1, a2⟩, h3⟩ := h
  refine ⟨h1, ⟨a1, ?_⟩, h3⟩
  rcases a2 with a2 | ⟨g, cap, cur, hv, hb', r⟩
  · exact .inl a2
  · exact .inr ⟨g, cap, cur, hv, by omega, r⟩
theorem OwnP.cast {l' : List (Int × Int)} (h : OwnP T w base A n c l) (e : l = l') : OwnP T w base A n c l' := e ▸ h
theorem ownBlockP_le (h : OwnP T w base A n c l) : ∀ b, (Value.slice A n c).ownBlock = some b → base ≤ b := by
  intro b hb
  exact (World.ownsRow.lt h.2.1 b hb).1

structure PairT (P : Program) (S T : TypeId) : Prop where
  und : P.underlying S = some (.slice T)
  info : (P.info? T).map (fun i => (i.zero, i.size, i.bytes)) = some (some (.agg #[.int .i64 0, .int .i64 0]), 2, 16)

theorem wpList_appP {P : Program} {S : TypeId} (it : PairT P S T) (w : World) {ops : Array Oper} {rest : List Oper} {o : Oper} {a : Act} {Q : Exit → Act → World → Prop} (hgd : o.guard = none) (s x : Operand)
    (ho : o.op = .call { callee := .builtin .append, args := #[s, x], argTypes := #[S, S] })
    (base : Nat) (A : Option Addr) (n c : Nat) (l : List (Int × Int)) (hs : a.eval s = .slice A n c) (hown : OwnP T w base A n c l)
    (v1 v2 : Int) (hx : a.eval x = .slice (some ⟨w.heap.size, 0, none⟩) 1 1) (hwf1 : (Lit.int .i64 v1).wf = true) (hwf2 : (Lit.int .i64 v2).wf = true)
    (hlen : n ≤ 1099511627776) (hbase : base ≤ w.heap.size)
    (h : ∀ g' c' w', OwnP T w' base (some ⟨g', 0, none⟩) (n + 1) c' (l ++ [(v1, v2)]) → w.grownBy w' (Value.slice A n c).ownBlock → Below base w w' → ((Value.slice A n c).ownBlock = some g' ∨ w.heap.size ≤ g') → wpList P ops Q rest (a.put o.dst (.slice (some ⟨g', 0, none⟩) (n + 1) c')) w') :
    wpList P ops Q (o :: rest) a (w.alloc (.cells #[.int .i64 v1, .int .i64 v2] T)) := by
  obtain ⟨i, hi, hz0, hz1, hz2⟩ := info_parts it.info
  have hown' := hown.e ((E.refl w).alloc (.cells #[.int .i64 v1, .int .i64 v2] T))
  refine wpList_plain hgd fun K hK' => ?_
  obtain ⟨v', w', hrun, h2, h3, h4, h5⟩ := run_append_own_at (P := P) (w.alloc (.cells #[.int .i64 v1, .int .i64 v2] T)) base S o.type T i _ 2 16 it.und hi hz0 hz1 hz2 rfl (by decide) _ n _ hown'.2.1 ⟨w.heap.size, 0, none⟩ 1 1 [.int .i64 v1, .int .i64 v2] rfl
    (by intro j u hu
        have hb : (w.alloc (.cells #[.int .i64 v1, .int .i64 v2] T)).heap[w.heap.size]? = some (.cells #[.int .i64 v1, .int .i64 v2] T) := heap_alloc_new w _
        have hc := fun jj => cell_of_row _ w.heap.size jj _ _ _ hb
        match j with
        | 0 => simp at hu; subst hu; exact hc 0
        | 1 => simp at hu; subst hu; exact hc 1
        | j + 2 => simp at hu)
    (by intro u hu; simp at hu; rcases hu with rfl | rfl <;> rfl) (by unfold maxLen; omega) (by omega) (by simp; omega)
  unfold Oper.wp execOp
  simp only [ho, resolve, invoke, builtin, Sem.run_bind, Sem.run_pure, Result.andThen_ok, List.map_toArray, List.map_cons, List.map_nil, hs, hx, hrun]
  rw [← flat2_snoc] at h2
  have hG' := grown_of_alloc h3
  rcases h2.2 with ⟨_, h0⟩ | ⟨g', c', cur, rfl, _⟩
  · omega
  · refine hK' _ _ (h g' c' w' ⟨by simp [hown.1], h2, ?_⟩ hG' ((Below.refl base w).grown hG' hbase (ownBlockP_le hown)) ?_)
    · intro y hy; rcases List.mem_append.1 hy with hy | hy; exact hown.2.2 y hy; simp at hy; subst hy; exact ⟨hwf1, hwf2⟩
    · rcases h5 with h5 | h5
      · left; rw [← h5]; rfl
      · right; simp [Value.ownBlock] at h5; omega
end

def RetOwnP (T : TypeId) (w : World) (l : List (Int × Int)) (e : Ending) (w' : World) : Prop :=
  ∃ A n c, e = .returned (.slice A n c) ∧ OwnP T w' w.heap.size A n c l ∧ E w w'
theorem RetOwnP.mk_ {T : TypeId} {w w' : World} {r : List (Int × Int)} {A : Option Addr} {n c : Nat} {l : List (Int × Int)} (hr : r = l) (hO : OwnP T w' w.heap.size A n c l) (hE : E w w') :
    RetOwnP T w r (.returned (.slice A n c)) w' := ⟨A, n, c, rfl, by rw [hr]; exact hO, hE⟩

theorem amtT : PairT Try.prog 36 67 := ⟨Try.underlying36, by kernel_rfl⟩

def amF : Nat → List Int → List (Int × Int)
  | _, [] => []
  | i, x :: l => if 0 < x then ((i : Int), x) :: amF (i + 1) l else amF (i + 1) l
def amountsS (l : List Int) : List (Int × Int) := if isBagB l then amF 0 l else []
theorem amF_yes {l : List Int} {k : Nat} {x : Int} (h : l[k]? = some x) (hx : 0 < x) : amF k (l.drop k) = ((k : Int), x) :: amF (k + 1) (l.drop (k + 1)) := by rw [drop_at h]; simp [amF, hx]
theorem amF_no {l : List Int} {k : Nat} {x : Int} (h : l[k]? = some x) (hx : ¬ 0 < x) : amF k (l.drop k) = amF (k + 1) (l.drop (k + 1)) := by rw [drop_at h]; simp [amF, hx]

set_option maxHeartbeats 1000000 in
theorem amounts_c (A : Option Addr) (n c : Nat) (l : List Int) (w : World) (h : Nums .i64 w A n c l) :
    Calls Try.prog 28 #[.slice A n c] w (RetOwnP 67 w (amountsS l)) := by
  have hm := h.n63
  cases hbag : isBagB l
  · have HT := Lib.hid (show amountsS l = [] by simp [amountsS, hbag])
    go_enter Try.func28, Try.ntmps28
    go_wp2_with (go_at_call 49; refine (isBag_c _ _ _ _ _ h).mono ?_; rintro e w' ⟨rfl, rfl⟩)
    go_ret
    exact RetOwnP.mk_ HT.out (OwnP.nil _ _ _) (E.refl _)
  · have HT := Lib.hid (show amountsS l = amF 0 l by simp [amountsS, hbag])
    have HB := Lib.hid hbag
    have hn64 : n ≤ 64 := by have := isBag_len hbag; rw [h.len] at this; exact this
    go_enter Try.func28, Try.ntmps28
    go_wp2_with (go_at_call 49; refine (isBag_c _ _ _ _ _ h).mono ?_; rintro e w' ⟨rfl, rfl⟩)
    go_loopw [3, 11] (fun t i wr => ∃ (k m c' : Nat) (A' : Option Addr) (out : List (Int × Int)), k ≤ n ∧ m ≤ k ∧ i = .int .i64 k ∧ t = .slice A' m c' ∧ OwnP 67 wr w.heap.size A' m c' out ∧ E w wr ∧ Hid (out ++ amF k (l.drop k) = amountsS l)) (fun _ i _ => n - (intOf i).toNat)
    case atStart => exact ⟨0, 0, 0, none, [], Nat.zero_le _, Nat.zero_le _, rfl, rfl, OwnP.nil _ _ _, E.refl _, HT.out.symm⟩
    case round =>
      obtain ⟨k, m, c', A', out, hk, hmk, rfl, rfl, hown, hE, hs⟩ := hrel
      have hle := hE.le
      by_cases hlt : k < n
      · obtain ⟨b, o, x, rfl, hb, hx, hwx, hc⟩ := (h.e hE).get hlt
        obtain ⟨x0, x1⟩ := isBag_get HB.out hx
        have HX := Lib.hid hx
        clear hx hwx
        by_cases hz : 0 < x
        · go_wp2_with (at_builtin; refine wpList_appP amtT _ rfl _ _ rfl _ _ _ _ _ rfl hown _ _ rfl (wf_of_i64 (by omega) (by omega)) (wf_of_i64 (by omega) (by omega)) (by omega) hle ?_; intro g' c2 w1 hO hG hB hor)
          go_roundw
          case rel => exact ⟨k + 1, m + 1, c2, _, _, by omega, by omega, by go_num, rfl, hO, hE.up hB, show _ = _ by rw [← hs.out, amF_yes HX.out hz]; simp⟩
          case measure => simp [intOf]; omega
        · go_wp2
          go_roundw
          case rel => exact ⟨k + 1, m, c', A', out, by omega, by omega, by go_num, rfl, hown, hE, show _ = _ by rw [← hs.out, amF_no HX.out (by omega)]⟩
          case measure => simp [intOf]; omega
      · have HF := Lib.hid (show amountsS l = out by rw [← hs.out, drop_end h.len (by omega)]; simp [amF])
        go_wp2
        go_ret
        exact RetOwnP.mk_ HF.out hown hE
end Go.Proofs.Ytbpfdogjjoceaaa
