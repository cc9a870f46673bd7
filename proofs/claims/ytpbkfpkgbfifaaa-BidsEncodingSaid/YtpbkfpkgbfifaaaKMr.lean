/- Maps from numbers to rows of indices: how an index is appended to the row at a key; a family of such maps. -/
import Derived.Test.YtpbkfpkgbfifaaaKMv
import Derived.Test.YtpbkfpkgbfifaaaKD
import Derived.Test.YtpbkfpkgbfifaaaCT
namespace Go.Proofs.Ytpbkfpkgbfifaaa
open Go.RowKit

theorem mapRT : MapT 77 22 (.slice none 0 0) := ⟨Try.underlying77, fun w => Try.zeroValue22 w⟩
def nilS : Value := .slice none 0 0
/-- block j holds numbers -/
def IntB (w : World) (j : Nat) : Prop := ∃ cs fr, w.heap[j]? = some (.cells cs 3 fr)
theorem Own.intB {w : World} {base : Nat} {A : Option Addr} {n c b : Nat} {l : List Int} (h : Own .i64 3 w base A n c l) (hb : ob A = some b) : base ≤ b ∧ IntB w b := by
  refine ⟨(h.ltN b hb).1, ?_⟩
  rcases h.2.1.2 with ⟨hv, _⟩ | ⟨g, cap, cur, hv, hbg, hh, r⟩
  · injection hv with hA; rw [hA] at hb; cases hb
  · injection hv with hA
    rw [hA] at hb
    have : g = b := by simpa [ob] using hb
    subst this
    exact ⟨_, _, hh⟩
theorem MapV.notInt {w : World} {b n : Nat} {f : Int → Option Value} (h : MapV w b n f) : ¬ IntB w b := by
  rintro ⟨cs, fr, e⟩
  obtain ⟨D, ⟨es, clock, h1, _⟩, _⟩ := h
  rw [e] at h1; cases h1
theorem MapV.obj {w : World} {b n : Nat} {f : Int → Option Value} (h : MapV w b n f) : ∃ es clock, w.heap[b]? = some (.map es clock) := by
  obtain ⟨D, ⟨es, clock, h1, _⟩, _⟩ := h
  exact ⟨es, clock, h1⟩
/-- maps whose rows hold F at their keys; the map of the bidders (false) and that of the lots (true), as far as they are there -/
structure Fam (w : World) (base : Nat) (on : Bool → Bool) (mb nb : Bool → Nat) (r : Key → Option Value) (F : Key → List Nat) : Prop where
  maps : ∀ t, on t = true → MapV w (mb t) (nb t) (fun y => r (t, y))
  mne : on false = true → on true = true → mb false ≠ mb true
  rows : ∀ k, ∃ A n c, (r k).getD nilS = .slice A n c ∧ Own .i64 3 w base A n c (ints (F k))
  inj : ∀ k k' A n c A' n' c', k ≠ k' → (r k).getD nilS = .slice A n c → (r k').getD nilS = .slice A' n' c' → apartS A A'
section
variable {w w' : World} {base : Nat} {on : Bool → Bool} {mb nb : Bool → Nat} {r : Key → Option Value} {F : Key → List Nat}
/-- what turns neither a row of numbers nor a map leaves the family -/
theorem Fam.ex {X : Nat → Prop} (h : Fam w base on mb nb r F) (hX : Ex X w w') (h1 : ∀ i, X i → ¬ IntB w i) (h2 : ∀ t, on t = true → ¬ X (mb t)) : Fam w' base on mb nb r F :=
  ⟨fun t ht => (h.maps t ht).block (hX.block _ (h.maps t ht).lt (h2 t ht)), h.mne, fun k => by
    obtain ⟨A, n, c, e, hO⟩ := h.rows k
    exact ⟨A, n, c, e, hO.ex hX (fun b hb x => h1 b x (hO.intB hb).2)⟩, h.inj⟩
theorem Fam.e (h : Fam w base on mb nb r F) (hE : E w w') : Fam w' base on mb nb r F := h.ex (X := fun _ => False) (Ex.of_e hE) (fun _ x => x.elim) (fun _ _ x => x)
theorem Fam.drew (h : Fam w base on mb nb r F) : Fam w.drew base on mb nb r F := h.e ((E.refl w).drew)
def updK {α : Type} (f : Key → α) (k : Key) (v : α) : Key → α := fun k' => if k' = k then v else f k'
set_option maxRecDepth 100000 in
theorem Fam.add (h : Fam w base on mb nb r F) (k : Key) (ht : on k.1 = true) (i : Nat) {A : Option Addr} {n c : Nat} (hk : (r k).getD nilS = .slice A n c) (hx : (Lit.int .i64 k.2).wf = true) (hi : (i : Int) ≤ 1099511627776) (hn : n + 1 ≤ 1099511627776) (hnb : nb k.1 < maxLen) (hbase : base ≤ w.heap.size) (ty : TypeId) :
    ∃ A' c' w1 w2, (Builtin.append_ #[22, 22] ty #[.slice A n c, .slice (some ⟨w.heap.size, 0, none⟩) 1 1]).run Try.prog (w.alloc (.cells #[.int .i64 i] 3)) = .ok (.slice A' (n + 1) c') w1 ∧
      (Instr.mapUpdate 77 (.map (some (mb k.1))) (.int .i64 k.2) (.slice A' (n + 1) c')).run Try.prog w1 = .ok () w2 ∧
      Fam w2 base on mb (fun t => if t = k.1 then nb t + 1 else nb t) (updK r k (some (.slice A' (n + 1) c'))) (updK F k (F k ++ [i])) ∧ Ex (fun j => j = mb k.1 ∨ (base ≤ j ∧ IntB w j)) w w2 ∧ Ex (fun j => base ≤ j ∧ IntB w j) w w1 := by
  obtain ⟨A0, n0, c0, e0, hO⟩ := h.rows k
  rw [hk] at e0
  injection e0 with e1 e2 e3
  subst e1 e2 e3
  have hE : E w (w.alloc (.cells #[.int .i64 (i : Int)] 3)) := (E.refl w).alloc _
  have hwf : (Lit.int .i64 (i : Int)).wf = true := wf_of_i64 (by omega) (by omega)
  have hN : Nums .i64 (w.alloc (.cells #[.int .i64 (i : Int)] 3)) (some ⟨w.heap.size, 0, none⟩) 1 1 [(i : Int)] :=
    ⟨rfl, Nat.le_refl _, by unfold maxLen; omega, by intro y hy; simp at hy; subst hy; exact hwf, fun _ => ⟨w.heap.size, 0, rfl, by simp, fun j hj => by
      have : j = 0 := by simpa using hj
      subst this; exact cell_new _ _ _⟩⟩
  obtain ⟨A', c', w1, hrun, hO1, hG, hor⟩ := run_appN intTk (w.alloc (.cells #[.int .i64 (i : Int)] 3)) ty base A n c (ints (F k)) (hO.e hE) _ 1 1 [(i : Int)] hN hn (by simp; omega)
  rw [ob_eq] at hG
  rw [ob_eq, ob_eq] at hor
  have hX1 : Ex (fun j => ob A = some j) (w.alloc (.cells #[.int .i64 (i : Int)] 3)) w1 := ⟨hG.os, hG.tape, hG.output, hG.size, fun j hj hx => hG.block j hj (fun e => hx e.symm)⟩
  have hXw : Ex (fun j => ob A = some j) w w1 := (Ex.of_e hE).trans hX1 (fun _ _ x => x) (fun _ _ x => x)
  have hm1 : MapV w1 (mb k.1) (nb k.1) (fun y => r (k.1, y)) := (h.maps _ ht).block (hXw.block _ (h.maps _ ht).lt (fun e => (h.maps _ ht).notInt (hO.intB e).2))
  obtain ⟨w2, hrun2, hM2, hG2⟩ := hm1.put mapRT (.slice A' (n + 1) c') hx hnb
  have hX2 : Ex (fun j => j = mb k.1) w1 w2 := ⟨hG2.os, hG2.tape, hG2.output, hG2.size, fun j hj hx => hG2.block j hj (fun e => hx (by injection e))⟩
  have hXa : Ex (fun j => j = mb k.1 ∨ ob A = some j) w w2 := hXw.trans hX2 (fun _ _ x => .inr x) (fun _ _ x => .inl x)
  have hsz : w.heap.size ≤ w1.heap.size := hXw.size
  have hapA : ∀ k' A2 n2 c2, k' ≠ k → (r k').getD nilS = .slice A2 n2 c2 → apartS A2 A' := fun k' A2 n2 c2 hne he => by
    obtain ⟨A3, n3, c3, e3, hO3⟩ := h.rows k'
    rw [he] at e3
    injection e3 with e1 e2 e3
    subst e1 e2 e3
    intro b hb hb'
    rcases hor with e | e
    · rw [e] at hb'; exact h.inj k' k _ _ _ _ _ _ hne he hk b hb hb'
    · rw [e] at hb'
      injection hb' with hb'
      have := (hO3.ltN b hb).2
      simp at hb'; omega
  refine ⟨A', c', w1, w2, hrun, hrun2, ⟨fun t htt => ?_, h.mne, fun k' => ?_, ?_⟩, hXa.mono (fun j _ x => x.elim .inl fun x => .inr (hO.intB x)), hXw.mono (fun j _ x => hO.intB x)⟩
  · by_cases e : t = k.1
    · subst e
      rw [if_pos rfl]
      have : (fun y => updK r k (some (.slice A' (n + 1) c')) (k.1, y)) = (fun y => if y = k.2 then some (.slice A' (n + 1) c') else r (k.1, y)) := by
        funext y
        unfold updK
        by_cases ey : y = k.2
        · rw [if_pos ey, if_pos (by rw [ey])]
        · rw [if_neg ey, if_neg (fun e' => ey (by rw [← e']))]
      rw [this]; exact hM2
    · rw [if_neg e]
      have : (fun y => updK r k (some (.slice A' (n + 1) c')) (t, y)) = (fun y => r (t, y)) := by
        funext y
        unfold updK
        rw [if_neg (fun e' => e (by rw [← e']))]
      rw [this]
      have hmt := h.maps t htt
      refine hmt.block (hXa.block _ hmt.lt (fun x => ?_))
      rcases x with x | x
      · obtain ⟨kt, ky⟩ := k
        cases t <;> cases kt <;> simp at e ht x htt ⊢
        · exact h.mne htt ht x
        · exact h.mne ht htt x.symm
      · exact hmt.notInt (hO.intB x).2
  · unfold updK
    by_cases e : k' = k
    · subst e
      rw [if_pos rfl, if_pos rfl]
      refine ⟨A', n + 1, c', rfl, ?_⟩
      rw [ints_app]
      exact hO1.ex hX2 (fun b hb x => hm1.notInt (x ▸ (hO1.intB hb).2))
    · rw [if_neg e, if_neg e]
      obtain ⟨A3, n3, c3, e3, hO3⟩ := h.rows k'
      refine ⟨A3, n3, c3, e3, hO3.ex hXa (fun b hb x => ?_)⟩
      rcases x with x | x
      · exact (h.maps _ ht).notInt (x ▸ (hO3.intB hb).2)
      · exact h.inj k' k _ _ _ _ _ _ e e3 hk b hb x
  · intro k1 k2 A1 n1 c1 A2 n2 c2 hne h1 h2
    unfold updK at h1 h2
    by_cases e1 : k1 = k
    · rw [if_pos e1] at h1
      rw [if_neg (fun e => hne (e1.trans e.symm))] at h2
      simp only [Option.getD_some] at h1
      injection h1 with a1 a2 a3
      subst a1
      exact (hapA k2 _ _ _ (fun e => hne (e1.trans e.symm)) h2).symm
    · rw [if_neg e1] at h1
      by_cases e2 : k2 = k
      · rw [if_pos e2] at h2
        simp only [Option.getD_some] at h2
        injection h2 with a1 a2 a3
        subst a1
        exact hapA k1 _ _ _ e1 h1
      · rw [if_neg e2] at h2
        exact h.inj _ _ _ _ _ _ _ _ hne h1 h2
theorem Fam.look (h : Fam w base on mb nb r F) (k : Key) (ht : on k.1 = true) (hx : (Lit.int .i64 k.2).wf = true) {v : Value} (hk : (r k).getD nilS = v) : (Instr.lookup 77 (.map (some (mb k.1))) (.int .i64 k.2) false).run Try.prog w = .ok v w := by
  rw [(h.maps _ ht).look mapRT hx, ← hk]; rfl
end
/-- append as a step of a region that draws, by its run -/
theorem step_app_run {P : Program} {S : TypeId} {W w' : World} {ops : Array Oper} {o : Oper} {a : Act} {K : Act → World → Prop} {Q : Exit → Act → World → Prop} {R : Prop} (hgd : o.guard = none) (s x : Operand)
    (ho : o.op = .call { callee := .builtin .append, args := #[s, x], argTypes := #[S, S] }) {v1 v2 v : Value} (hs : a.eval s = v1) (hx : a.eval x = v2) (hrun : (Builtin.append_ #[S, S] o.type #[v1, v2]).run P W = .ok v w') (h : K (a.put o.dst v) w') :
    if Region.wanted o (yielded ops a.tmps) = true then Oper.wp P o a W K Q else R := by
  have hw : Region.wanted o (yielded ops a.tmps) = true := by simp [Region.wanted, hgd]
  rw [if_pos hw]
  unfold Oper.wp execOp
  simp only [ho, resolve, invoke, builtin, Sem.run_bind, Sem.run_pure, Result.andThen_ok, List.map_toArray, List.map_cons, List.map_nil, hs, hx, hrun]
  exact h
theorem wpList_app_run {P : Program} {S : TypeId} {w w' : World} {ops : Array Oper} {rest : List Oper} {o : Oper} {a : Act} {Q : Exit → Act → World → Prop} (hgd : o.guard = none) (s x : Operand)
    (ho : o.op = .call { callee := .builtin .append, args := #[s, x], argTypes := #[S, S] }) {v1 v2 v : Value} (hs : a.eval s = v1) (hx : a.eval x = v2) (hrun : (Builtin.append_ #[S, S] o.type #[v1, v2]).run P w = .ok v w') (h : wpList P ops Q rest (a.put o.dst v) w') :
    wpList P ops Q (o :: rest) a w := by
  refine wpList_plain hgd fun K hK' => ?_
  unfold Oper.wp execOp
  simp only [ho, resolve, invoke, builtin, Sem.run_bind, Sem.run_pure, Result.andThen_ok, List.map_toArray, List.map_cons, List.map_nil, hs, hx, hrun]
  exact hK' _ _ h
end Go.Proofs.Ytpbkfpkgbfifaaa
