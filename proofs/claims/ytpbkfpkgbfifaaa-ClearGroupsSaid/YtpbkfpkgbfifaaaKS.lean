/- A price is raised, a bid is left out (plain); a copy of a row of bids. -/
import Derived.Test.YtpbkfpkgbfifaaaKR
namespace Go.Proofs.Ytpbkfpkgbfifaaa
open Go.RowKit

def raiseL (l : List Bd) (i : Nat) (d : Int) : List Bd := match l[i]? with | some x => l.set i (x.1, x.2.1 + d, x.2.2) | none => l
theorem raise_get {l : List Bd} {i : Nat} {d : Int} (j : Nat) : ((raiseL l i d).getD j bd0).1 = (l.getD j bd0).1 ∧ ((raiseL l i d).getD j bd0).2.2 = (l.getD j bd0).2.2 ∧ pr (raiseL l i d) j = pr l j + if j = i ∧ i < l.length then d else 0 := by
  unfold raiseL pr
  cases hx : l[i]? with
  | none =>
    have : ¬ i < l.length := by rw [List.getElem?_eq_none_iff] at hx; omega
    simp [this]
  | some x =>
    have hi := (List.getElem?_eq_some_iff.1 hx).1
    simp only [List.getD_eq_getElem?_getD]
    by_cases e : i = j
    · subst e
      rw [List.getElem?_set_self hi, hx]
      simp [hi]
    · rw [List.getElem?_set_ne e]
      have : ¬ j = i := fun h => e h.symm
      simp [this]
theorem raise_len (l : List Bd) (i : Nat) (d : Int) : (raiseL l i d).length = l.length := by unfold raiseL; split <;> simp
theorem raise_confl {l : List Bd} {i : Nat} {d : Int} (a b : Nat) : confl ((raiseL l i d).getD a bd0) ((raiseL l i d).getD b bd0) = confl (l.getD a bd0) (l.getD b bd0) := by
  unfold confl
  rw [(raise_get a).1, (raise_get b).1, (raise_get a).2.1, (raise_get b).2.1]
theorem raise_feas {l : List Bd} {i : Nat} {d : Int} (c : List Nat) : feas (raiseL l i d) c ↔ feas l c := by
  unfold feas
  rw [raise_len]
  simp only [raise_confl]
theorem raise_val {l : List Bd} {i : Nat} {d : Int} (hd : 0 ≤ d) : ∀ c : List Nat, c.Pairwise (· < ·) → val l c ≤ val (raiseL l i d) c ∧ val (raiseL l i d) c ≤ val l c + d ∧ (i ∉ c → val (raiseL l i d) c = val l c)
  | [], _ => ⟨Int.le_refl _, by simp [val]; exact hd, fun _ => rfl⟩
  | x :: c, h => by
    rw [List.pairwise_cons] at h
    obtain ⟨h1, h2, h3⟩ := raise_val (l := l) (i := i) hd c h.2
    simp only [val, (raise_get (l := l) (i := i) (d := d) x).2.2]
    by_cases e : x = i
    · have hn : i ∉ c := fun hi => by have := h.1 i hi; omega
      have := h3 hn
      refine ⟨?_, ?_, fun hh => absurd (by simp [e]) hh⟩
      · split <;> omega
      · split <;> omega
    · rw [if_neg (fun hh => e hh.1)]
      refine ⟨by omega, by omega, fun hh => ?_⟩
      have := h3 (fun hi => hh (List.mem_cons_of_mem _ hi))
      omega
theorem raise_best {l : List Bd} {i : Nat} {d : Int} (hd : 0 ≤ d) (hp : ∀ i, 0 ≤ pr l i) : (bestS l).2 ≤ (bestS (raiseL l i d)).2 ∧ (bestS (raiseL l i d)).2 ≤ (bestS l).2 + d := by
  have hp' : ∀ j, 0 ≤ pr (raiseL l i d) j := fun j => by rw [(raise_get j).2.2]; have := hp j; split <;> omega
  have h1 := bestS_opt hp
  have h2 := bestS_opt hp'
  have a := raise_val (l := l) (i := i) hd _ h1.1.1
  have b := raise_val (l := l) (i := i) hd _ ((raise_feas _).1 h2.1).1
  have c := h2.2.2 _ ((raise_feas _).2 h1.1)
  have e := h1.2.2 _ ((raise_feas _).1 h2.1)
  have f := h1.2.1
  have g := h2.2.1
  omega
theorem drop_best {l : List Bd} (hp : ∀ x ∈ l, 0 ≤ x.2.1) (k : Nat) : (bestS (l.take k)).2 ≤ (bestS l).2 := by
  obtain ⟨s, h1, h2, h3⟩ := (bestS_max (l := l.take k) (fun x hx => hp x (List.mem_of_mem_take hx))).1
  rw [← h3]
  exact (bestS_max hp).2 s (h1.trans (List.take_sublist _ _)) h2

theorem BidsAt.take {w : World} {A : Option Addr} {n c : Nat} {l : List Bd} (h : BidsAt w A n c l) {m : Nat} (hm : m ≤ n) : BidsAt w A m c (l.take m) := by
  refine ⟨by rw [List.length_take, h.len]; omega, by have := h.cap; omega, h.mx, fun h0 => ?_⟩
  obtain ⟨b, o, e, hb, hc⟩ := h.at_ (by omega)
  refine ⟨b, o, e, hb, fun i x hx => hc i x ?_⟩
  rw [List.getElem?_take] at hx
  split at hx
  · exact hx
  · cases hx
/-- append([]Bid{}, a...): a copy -/
theorem wpList_cpBd {P : Program} {S T : TypeId} (it : BidT P S T) (w : World) {ops : Array Oper} {rest : List Oper} {o : Oper} {a : Act} {Q : Exit → Act → World → Prop} (hgd : o.guard = none) (s x : Operand)
    (ho : o.op = .call { callee := .builtin .append, args := #[s, x], argTypes := #[S, S] })
    (base g n c : Nat) (q : List (Bd × Sl)) (hs : a.eval s = .slice (some ⟨w.heap.size, 0, none⟩) 0 0) (hx : a.eval x = .slice (some ⟨g, 0, none⟩) n c) (hR : BRow T w base (some ⟨g, 0, none⟩) n c q) (hlen : n ≤ 1000000)
    (hsub : ∀ p ∈ q, 0 < p.2.2.1 → ∀ b, ob p.2.1 = some b → b < w.heap.size)
    (h : ∀ g' c' w', BRow T w' w.heap.size (some ⟨g', 0, none⟩) n c' q → E w w' → w.heap.size ≤ g' → wpList P ops Q rest (a.put o.dst (.slice (some ⟨g', 0, none⟩) n c')) w') :
    wpList P ops Q (o :: rest) a (w.alloc (.cells #[] T)) := by
  obtain ⟨i, hi, hz0, hz1, hz2⟩ := info_parts it.info
  have hE := (E.refl w).alloc (.cells #[] T)
  have hR' := hR.e hE
  have hown : (w.alloc (.cells #[] T)).ownsRow w.heap.size T 3 (.slice (some ⟨w.heap.size, 0, none⟩) 0 0) 0 [] := World.ownsRow_made w #[] 0 (Nat.le_refl _) (by unfold maxLen; omega) rfl
  refine wpList_plain hgd fun K hK' => ?_
  obtain ⟨v', w', hrun, h2, h3, h4, h5⟩ := run_append_own_at (P := P) (w.alloc (.cells #[] T)) w.heap.size S o.type T i _ 3 40 it.und hi hz0 hz1 hz2 rfl (by decide) _ 0 _ hown ⟨g, 0, none⟩ n c (flat3 q) (by rw [flat3_len, hR.1])
    (by intro j u hu
        rw [add_plain, Nat.zero_add, World.ownsRow.cellAt hR'.2.1 j (by have := (List.getElem?_eq_some_iff.1 hu).1; rw [flat3_len, hR.1] at this; exact this)]
        exact hu)
    (by intro u hu
        clear h
        revert hu
        generalize q = qq
        induction qq with
        | nil => intro hu; simp [flat3] at hu
        | cons p r ih =>
          obtain ⟨y, sl⟩ := p
          intro hu
          simp only [flat3, List.mem_cons] at hu
          rcases hu with rfl | rfl | rfl | hu
          · rfl
          · rfl
          · rfl
          · exact ih hu) (by unfold maxLen; omega) (by omega) (by simp)
  unfold Oper.wp execOp
  simp only [ho, resolve, invoke, builtin, Sem.run_bind, Sem.run_pure, Result.andThen_ok, List.map_toArray, List.map_cons, List.map_nil, hs, hx, hrun]
  rw [Nat.zero_add, List.nil_append] at h2
  have hob : (Value.slice (some (⟨w.heap.size, 0, none⟩ : Addr)) 0 0).ownBlock = some w.heap.size := rfl
  rw [hob] at h3 h5
  have hG := grown_of_alloc h3
  rcases h2.2 with ⟨hv, _⟩ | ⟨g', c', cur, rfl, _⟩
  · exact absurd (h4.1 hv).1 (by simp)
  · have hg : w.heap.size ≤ g' := by
      rcases h5 with h5 | h5
      · have : g' = w.heap.size := by simpa [Value.ownBlock] using h5
        omega
      · have : g' = w.heap.size + 1 := by simpa [Value.ownBlock] using h5
        omega
    refine hK' _ _ (h g' c' w' ⟨hR.1, h2, fun p hp => ?_⟩ ((E.refl w).grown hG (fun k hk => by injection hk with hk; omega)) hg)
    obtain ⟨a1, a2, a3, a4⟩ := hR.2.2 p hp
    refine ⟨a1, a2, (a3.e hE).grown h3 (fun h0 e => ?_), fun h0 e => ?_⟩
    · have := hsub p hp h0 _ e; omega
    · have := hsub p hp h0 g' (by rw [e]; rfl); omega
end Go.Proofs.Ytpbkfpkgbfifaaa
