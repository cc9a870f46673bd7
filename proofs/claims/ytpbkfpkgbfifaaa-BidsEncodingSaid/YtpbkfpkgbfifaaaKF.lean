/- A range over a function whose iterator keeps state: the statement, and one round, in plain words. -/
import Derived.Test.YtpbkfpkgbfifaaaKE
namespace Go.Proofs.Ytpbkfpkgbfifaaa
open Go.RowKit Go.Shelf
attribute [local go_sem] Oper.semAt_some

/-- one round, out of its body's walk: the body goes on -/
theorem yield_body {P : Program} {m l : Nat} {r : Loop} {W : World} {args : Array Value} (hl : W.heap[l]? = some (.loop r)) (hr : r.state = .ready) (hp : r.pending = none) (hs : args.size = r.params.size) {a₁ : Act} {R : World → Prop}
    (hassign : ∀ (V : World) (K : Act → World → Prop), K a₁ V → r.assign.wpIn (Fence.wide.inRound l) m P (Exit.then K (fun _ _ _ => False)) { tmps := (r.params.zip args).foldl (fun t (p, v) => t.setIfInBounds p v) r.tmps, defers := [] } V)
    (hbody : r.body.wpIn (Fence.wide.inRound l) m P (fun e _ V => e = .normal ∧ V.heap[l]? = some (.loop { r with state := .busy }) ∧ R (V.putObj l (.loop r))) a₁ (W.putObj l (.loop { r with state := .busy }))) :
    YieldAt Fence.wide m P l args W fun e W' => e = .returned (.bool true) ∧ R W' := by
  refine ⟨r.fn, _, r.assign, r.body, run_yield hl hs, roundIn_of_wpIn trivial (hassign W _ ⟨_, run_beginRound hl hr, wpIn_mono hbody ?_⟩)⟩
  rintro e a V ⟨rfl, hV, hR⟩
  refine ⟨_, _, run_endRound none hV, rfl, ?_⟩
  obtain ⟨st, pe, fn, tmps, ps, asg, bo, df⟩ := r
  simp only at hr hp hR ⊢
  subst hr hp
  exact hR

/-- the statement: the iterator's own contract, at this record -/
theorem wp_range {P : Program} {g : Operand} {ps : Array Tmp} {assign body : Code} {Q : Exit → Act → World → Prop} {a : Act} {w : World} {gf : Nat} {lb : Array Value} (hg : a.eval g = .func (.func gf) #[] lb) (eg : ∀ args w, (callFunc gf args).run P w = .ok (.enter gf args) w) {Post : World → Prop}
    (hit : ∀ r : Loop, r.state = .ready → r.pending = none → r.tmps = a.tmps → r.params = ps → r.assign = assign → r.body = body → Calls P gf (#[.func (.yield (w.heap.size + 1)) #[] #[]] ++ lb) ((w.alloc (.deferred (some []))).alloc (.loop r))
      fun e W' => (∃ v, e = .returned v) ∧ W'.heap[w.heap.size + 1]? = some (.loop r) ∧ Post W')
    (hdone : ∀ (W' : World) (o : Obj), Post W' → w.heap.size + 1 < W'.heap.size → Q .normal { a with defers := { target := .collected w.heap.size, args := #[] } :: a.defers } (W'.putObj (w.heap.size + 1) o)) :
    (Code.rangeFunc g ps assign body).wp P Q a w := by
  refine (wpIn_wide (n := 3)).1 (wpIn_rangeFunc ?_)
  intro fn hfn
  have hit' := hit { state := .ready, pending := none, fn, tmps := a.tmps, params := ps, assign, body, defers := w.heap.size } rfl rfl rfl rfl rfl rfl
  obtain ⟨W1, hW1⟩ : ∃ W1, (w.alloc (.deferred (some []))).alloc (.loop { state := .ready, pending := none, fn, tmps := a.tmps, params := ps, assign, body, defers := w.heap.size }) = W1 := ⟨_, rfl⟩
  rw [hW1] at hit'
  refine ⟨w.heap.size + 1, [{ target := .collected w.heap.size, args := #[] }], W1, { target := .fn (.func gf) lb, args := #[.func (.yield (w.heap.size + 1)) #[] #[]] }, W1, gf,
    #[.func (.yield (w.heap.size + 1)) #[] #[]] ++ lb, W1, ?_, ?_, ?_, ?_, ?_, ?_⟩
  · rw [← hW1]; exact run_enterLoop_outer _ _ _ _ _
  · simp only [resolve, hg]
    simp [go_sem]
  · intro f' hf'; trivial
  · simp [invoke, go_sem, eg]
  · intro h; cases h
  · refine callsIn_wide.2 (hit'.mono ?_)
    rintro e W2 ⟨⟨v, rfl⟩, hl, hP⟩
    exact ⟨none, _, run_endLoop hl (by simp), hdone _ _ hP (lt_blk hl)⟩

/-- two worlds with the same blocks -/
theorem TS.same {W0 W W' : World} {b0 Bc Bf Bm : Nat} {Ac Af : Option Addr} {cc nf cf : Nat} {ch : List Nat} {st : List Nat × Int} (h : TS W0 b0 Bc Bf Bm W Ac cc ch Af nf cf st) (ho : W'.os = W.os) (ht : W'.tape = W.tape) (hu : W'.output = W.output) (hz : W'.heap.size = W.heap.size) (hb : ∀ i : Nat, W'.heap[i]? = W.heap[i]?) : TS W0 b0 Bc Bf Bm W' Ac cc ch Af nf cf st :=
  h.e ⟨ho, ht, hu, by omega, fun i _ => hb i⟩
end Go.Proofs.Ytpbkfpkgbfifaaa
