/- Lemmas of the claim, joined: VF VG. No condition. -/
import Derived.Test.YtgbamgijpgjmgaaBH
/- spans.Divide: the units of a list that are in a set, and those that are not. -/
namespace Go.Proofs.Ytgbamgijpgjmgaa
open Go.RowKit Go.Shelf
attribute [local go_sem] Oper.semAt_some

theorem spPieces_c (A : Option Addr) (n c : Nat) (As : Option Addr) (ns cs : Nat) (w : World) :
    Calls Try.prog 84 #[.slice A n c, .slice As ns cs] w fun e w' => e = .returned (.func (.func 103) #[] #[ptr w.heap.size, ptr (w.heap.size + 1)]) ∧
      w' = (w.alloc (.cells #[.slice A n c] 22)).alloc (.cells #[.slice As ns cs] 22) := by
  unfold ptr
  go_enter Try.func84, Try.ntmps84
  go_wp2_with fail
  go_ret
  exact ⟨rfl, rfl⟩
set_option maxHeartbeats 8000000 in
set_option maxRecDepth 100000 in
theorem spDivide_c (w : World) (A : Option Addr) (n c : Nat) (l : List Lt) (As : Option Addr) (ns cs : Nat) (s : List Lt) (hA : LotsAt w A n c l) (hS : LotsAt w As ns cs s) (hp : ∀ x ∈ l, possB x = true) (hps : ∀ x ∈ s, possB x = true) (hcan : Canon s) (hcnt : n * (2 * ns + 1) ≤ 300000) (hns : ns ≤ 100000) :
    Calls Try.prog 60 #[.slice A n c, .slice As ns cs] w (RetDiv w (fun _ => False) (glue (inU s (U l))) (glue (outU s (U l)))) := by
  have HAN := Lib.hid (And.intro hA.obl hS.obl)
  have HP := Lib.hid (And.intro hp hps)
  have HCan := Lib.hid hcan
  have HCnt := Lib.hid hcnt
  clear hp hps hcan hcnt
  refine (callsIn_wide (n := 3)).1 ?_
  refine callsIn_of_wp_marks Try.func60 rfl trivial ?_ rfl
  simp only [Try.ntmps60, List.size_toArray, List.length_cons, List.length_nil, Nat.reduceAdd, Nat.reduceSub, Array.replicate_succ, Array.replicate_zero, List.push_toArray, List.append_toArray, List.nil_append, List.cons_append]
  gi_wp2_with (refine ⟨trivial, ?_⟩; gi_at_call 84; refine (callsIn_wide.2 (spPieces_c A n c As ns cs _)).mono ?_; rintro e w' ⟨rfl, rfl⟩)
  obtain ⟨w2, hw2⟩ : ∃ w2, ((((w.alloc (.cells #[.slice none 0 0] 22)).alloc (.cells #[.slice none 0 0] 22)).alloc (.cells #[.slice A n c] 22)).alloc (.cells #[.slice As ns cs] 22)) = w2 := ⟨_, rfl⟩
  have hEw : E w w2 := by rw [← hw2]; exact ((((E.refl w).alloc _).alloc _).alloc _).alloc _
  have hz2 : w2.heap.size = w.heap.size + 4 := by rw [← hw2]; simp
  have hbt : w2.heap[w.heap.size]? = some (.cells #[.slice none 0 0] 22 (0, 0)) := by
    rw [← hw2, Below.heap_alloc _ _ _ (by simp only [World.size_alloc]; omega), Below.heap_alloc _ _ _ (by simp only [World.size_alloc]; omega), Below.heap_alloc _ _ _ (by simp)]; exact heap_alloc_new _ _
  have hbl : w2.heap[w.heap.size + 1]? = some (.cells #[.slice none 0 0] 22 (0, 0)) := by
    rw [← hw2, Below.heap_alloc _ _ _ (by simp only [World.size_alloc]; omega), Below.heap_alloc _ _ _ (by simp)]
    have := heap_alloc_new (w.alloc (.cells #[.slice none 0 0] 22)) (.cells #[.slice none 0 0] 22)
    rw [World.size_alloc] at this; exact this
  have hba : w2.heap[w.heap.size + 1 + 1]? = some (.cells #[.slice A n c] 22 (0, 0)) := by
    rw [← hw2, Below.heap_alloc _ _ _ (by simp)]
    have := heap_alloc_new ((w.alloc (.cells #[.slice none 0 0] 22)).alloc (.cells #[.slice none 0 0] 22)) (.cells #[.slice A n c] 22)
    rw [World.size_alloc, World.size_alloc] at this; exact this
  have hbc : w2.heap[w.heap.size + 1 + 1 + 1]? = some (.cells #[.slice As ns cs] 22 (0, 0)) := by
    rw [← hw2]
    have := heap_alloc_new (((w.alloc (.cells #[.slice none 0 0] 22)).alloc (.cells #[.slice none 0 0] 22)).alloc (.cells #[.slice A n c] 22)) (.cells #[.slice As ns cs] 22)
    rw [World.size_alloc, World.size_alloc, World.size_alloc] at this; exact this
  rw [hw2]
  clear hw2
  refine wpIn_wide.2 (wp_rangeX (gf := 103) (lb := #[ptr (w.heap.size + 1 + 1), ptr (w.heap.size + 1 + 1 + 1)]) rfl Try.call103
    (Post := fun W' => ∃ A1 n1 c1 A2 n2 c2, W'.heap[w.heap.size]? = some (.cells #[.slice A1 n1 c1] 22 (0, 0)) ∧ W'.heap[w.heap.size + 1]? = some (.cells #[.slice A2 n2 c2] 22 (0, 0)) ∧ W'.heap[w2.heap.size]? = some (.deferred (some [])) ∧ OwnL W' (w2.heap.size + 2) A1 n1 c1 (glue (inU s (U l))) ∧ OwnL W' (w2.heap.size + 2) A2 n2 c2 (glue (outU s (U l))) ∧ apartS A1 A2 ∧ (∀ y ∈ glue (inU s (U l)), possB y = true) ∧ (∀ y ∈ glue (outU s (U l)), possB y = true) ∧ Ex (fun _ => False) w W')
    (PostX := fun _ => False) ?hit ?done (fun _ _ h => h.elim))
  case hit =>
    intro r hr1 hr2 hr3 hr4 hr5 hr6
    obtain ⟨W1, hW1⟩ : ∃ W1, (w2.alloc (.deferred (some []))).alloc (.loop r) = W1 := ⟨_, rfl⟩
    have hE21 : E w2 W1 := by rw [← hW1]; exact ((E.refl _).alloc _).alloc _
    have hz1 : W1.heap.size = w2.heap.size + 2 := by rw [← hW1, World.size_alloc, World.size_alloc]
    have hD1 : W1.heap[w2.heap.size]? = some (.deferred (some [])) := by rw [← hW1, Below.heap_alloc _ _ _ (by simp)]; exact heap_alloc_new _ _
    have hL1 : W1.heap[w2.heap.size + 1]? = some (.loop r) := by
      have := heap_alloc_new (w2.alloc (.deferred (some []))) (.loop r)
      rw [World.size_alloc, hW1] at this; exact this
    rw [hW1]
    clear hW1
    obtain ⟨D, hDd⟩ : ∃ D, w2.heap.size = D := ⟨_, rfl⟩
    obtain ⟨L, hLd⟩ : ∃ L, w2.heap.size + 1 = L := ⟨_, rfl⟩
    have hq1 : w.heap.size + 4 = D := by omega
    have hq2 : D + 1 = L := by omega
    rw [hLd] at hL1
    rw [hDd] at hD1
    have hJ : EatsX L w.heap.size (fun _ => true) (JV (L + 1) L D w.heap.size (w.heap.size + 1) r) (fun _ _ _ => False) := by
      refine ⟨?_, ?_, ?_, fun _ _ _ _ _ _ h => by cases h⟩
      · rintro ps X W ⟨A1, n1, c1, A2, n2, c2, hD, rfl⟩ i hi
        refine ⟨?_, hD.xlt hi⟩
        rcases hi with rfl | rfl | rfl | rfl | hi | hi
        · omega
        · omega
        · omega
        · omega
        · have := (hD.o1.ltN i hi).1; omega
        · have := (hD.o2.ltN i hi).1; omega
      · rintro ps X W W' ⟨A1, n1, c1, A2, n2, c2, hD, rfl⟩ hk
        exact ⟨A1, n1, c1, A2, n2, c2, hD.keep hk, rfl⟩
      intro ps X W x f m _ hj hps hpx' hwx
      have hpx : x.2.2 ≠ 0 → possB x = true := fun _ => hpx'
      cases f
      · -- false
        obtain ⟨A1, n1, c1, A2, n2, c2, hD, rfl⟩ := hj
        have hlW : W.heap.size ≠ L := by have := lt_blk hD.l; omega
        have hszL : L < W.heap.size := lt_blk hD.l
        refine (yield_round (W2 := W.alloc (.cells #[.int .i64 x.1, .int .i64 x.2.1, .int .i64 x.2.2] 39)) (a₁ := { tmps := #[.slice A n c, .slice As ns cs, undef, undef, .pointer (some ⟨w.heap.size, 0, none⟩), .pointer (some ⟨w.heap.size + 1, 0, none⟩), .pointer (some ⟨W.heap.size, 0, none⟩), .bool false, .slice A n c, .slice As ns cs, .func (.func 103) #[] #[ptr (w.heap.size + 1 + 1), ptr (w.heap.size + 1 + 1 + 1)], .agg #[.int .i64 x.1, .int .i64 x.2.1, .int .i64 x.2.2], .bool false, undef, undef, undef, undef, undef, undef, undef, undef, undef], defers := [] })
          hD.l (((E.refl W).alloc _).block hszL |>.trans hD.l) hr1 hr2 (by rw [hr4]; rfl) (R := fun W' => ∃ X', JV (L + 1) L D w.heap.size (w.heap.size + 1) r (ps ++ [(x, false)]) X' W' ∧ Ex (XV L D w.heap.size (w.heap.size + 1) A1 A2) W W' ∧ ∀ i, X' i → XV L D w.heap.size (w.heap.size + 1) A1 A2 i ∨ W.heap.size ≤ i) (Rx := fun _ => False) ?assign ?body).mono (fun e W' h => ?post)
        case post =>
          rcases h with h | ⟨_, h⟩
          · exact h
          · exact h.elim
        case assign =>
          intro K hK
          unfold ltV
          rw [hr3, hr4, hr5]
          gi_wp2
          exact hK
        case body =>
          obtain ⟨r', hr'⟩ : ∃ r' : Loop, { r with state := .busy } = r' := ⟨_, rfl⟩
          rw [hr', hr6]
          clear hr'
          have hD := hD.swap
          obtain ⟨V0, hV0⟩ : ∃ V0, (W.alloc (.cells #[.int .i64 x.1, .int .i64 x.2.1, .int .i64 x.2.2] 39)).putObj L (.loop r') = V0 := ⟨_, rfl⟩
          have hX0 : Ex (fun i => i = L) W V0 := by rw [← hV0]; exact ((Ex.refl (fun i => i = L) W).alloc _).put L _ (.inr rfl)
          have hz0 : V0.heap.size = W.heap.size + 1 := by rw [← hV0, World.putObj_size, World.size_alloc]
          have hbx : V0.heap[W.heap.size]? = some (.cells #[.int .i64 x.1, .int .i64 x.2.1, .int .i64 x.2.2] 39 (0, 0)) := by
            rw [← hV0, World.putObj_heap_other (by have := lt_blk hD.l; omega)]; exact heap_alloc_new _ _
          have hb1 : V0.heap[w.heap.size + 1]? = _ := (hX0.block _ (lt_blk hD.b1) hD.ne.2.1).trans hD.b1
          have hO1 : OwnL V0 (L + 1) A2 n2 c2 (putL [] (sel false ps)) := hD.o1.ex hX0 (fun b hb e => by have := (hD.o1.ltN b hb).1; omega)
          have HP := Lib.hid (append_c x A2 n2 c2 (L + 1) _ V0 hO1 hD.p1 hpx hwx (by omega) (by have := sel_len false ps; have := hD.o1.1; omega))
          have HSt := Lib.hid (fun (V4 : World) (A' : Option Addr) (n' c' : Nat) (hO : OwnL V4 (L + 1) A' n' c' (addL (putL [] (sel false ps)) x)) (hG : V0.grownBy V4 (ob A2)) (hor : ob A' = ob A2 ∨ ∀ b, ob A' = some b → V0.heap.size ≤ b) =>
            hD.step (by omega) (o := .cells #[.int .i64 x.1, .int .i64 x.2.1, .int .i64 x.2.2] 39) (r' := r') (V4 := V4) hO (by rw [hV0]; exact hG) (by rw [hV0]; exact hor) (poss_add hD.p1 hpx))
          have hltB := lt_blk hb1
          have hA1b : ∀ k, ob A2 = some k → L + 1 ≤ k := fun k hk => (hD.o1.ltN k hk).1
          have hLB1 := hD.lt.2.2.1
          have cb := (cell_one hb1).1
          have cx := And.intro (cell_of_row _ _ 0 _ _ _ hbx) (And.intro (cell_of_row _ _ 1 _ _ _ hbx) (cell_of_row _ _ 2 _ _ _ hbx))
          simp only [List.getElem?_toArray, List.getElem?_cons_zero, List.getElem?_cons_succ] at cx
          obtain ⟨cx0, cx1, cx2⟩ := cx
          have HB1 := Lib.hid hb1
          rw [hV0]
          clear hV0 hX0 hbx hD hO1 hb1
          unfold ltV at HP
          gi_wp2_with (refine ⟨trivial, (fun h => absurd h (by decide)), ?_⟩; gi_at_call 85; refine (CallsIn.inRound L (callsIn_wide.2 HP.out)).mono ?_; rintro e V4 ⟨A', n', c', rfl, hO4, hG4, hor4⟩; have hb4 : V4.heap[w.heap.size + 1]? = _ := (hG4.block (w.heap.size + 1) hltB (fun e => by have := hA1b (w.heap.size + 1) e.symm; omega)).trans HB1.out; have c4 := (cell_one hb4).1; have f4 := (cell_one hb4).2)
          obtain ⟨g1, g2, g3, g4⟩ := HSt.out V4 A' n' c' hO4 hG4 hor4
          exact ⟨g1, _, ⟨A1, n1, c1, A', n', c', by rw [sel_hit false ps x, show true = !false from rfl, sel_miss false ps x]; exact g2.swap, rfl⟩, g3.mono (fun _ _ h => h.swap), fun i hi => (g4 i hi.swap).imp XV.swap id⟩
      · -- true
        obtain ⟨A1, n1, c1, A2, n2, c2, hD, rfl⟩ := hj
        have hlW : W.heap.size ≠ L := by have := lt_blk hD.l; omega
        have hszL : L < W.heap.size := lt_blk hD.l
        refine (yield_round (W2 := W.alloc (.cells #[.int .i64 x.1, .int .i64 x.2.1, .int .i64 x.2.2] 39)) (a₁ := { tmps := #[.slice A n c, .slice As ns cs, undef, undef, .pointer (some ⟨w.heap.size, 0, none⟩), .pointer (some ⟨w.heap.size + 1, 0, none⟩), .pointer (some ⟨W.heap.size, 0, none⟩), .bool true, .slice A n c, .slice As ns cs, .func (.func 103) #[] #[ptr (w.heap.size + 1 + 1), ptr (w.heap.size + 1 + 1 + 1)], .agg #[.int .i64 x.1, .int .i64 x.2.1, .int .i64 x.2.2], .bool true, undef, undef, undef, undef, undef, undef, undef, undef, undef], defers := [] })
          hD.l (((E.refl W).alloc _).block hszL |>.trans hD.l) hr1 hr2 (by rw [hr4]; rfl) (R := fun W' => ∃ X', JV (L + 1) L D w.heap.size (w.heap.size + 1) r (ps ++ [(x, true)]) X' W' ∧ Ex (XV L D w.heap.size (w.heap.size + 1) A1 A2) W W' ∧ ∀ i, X' i → XV L D w.heap.size (w.heap.size + 1) A1 A2 i ∨ W.heap.size ≤ i) (Rx := fun _ => False) ?assign ?body).mono (fun e W' h => ?post)
        case post =>
          rcases h with h | ⟨_, h⟩
          · exact h
          · exact h.elim
        case assign =>
          intro K hK
          unfold ltV
          rw [hr3, hr4, hr5]
          gi_wp2
          exact hK
        case body =>
          obtain ⟨r', hr'⟩ : ∃ r' : Loop, { r with state := .busy } = r' := ⟨_, rfl⟩
          rw [hr', hr6]
          clear hr'
          obtain ⟨V0, hV0⟩ : ∃ V0, (W.alloc (.cells #[.int .i64 x.1, .int .i64 x.2.1, .int .i64 x.2.2] 39)).putObj L (.loop r') = V0 := ⟨_, rfl⟩
          have hX0 : Ex (fun i => i = L) W V0 := by rw [← hV0]; exact ((Ex.refl (fun i => i = L) W).alloc _).put L _ (.inr rfl)
          have hz0 : V0.heap.size = W.heap.size + 1 := by rw [← hV0, World.putObj_size, World.size_alloc]
          have hbx : V0.heap[W.heap.size]? = some (.cells #[.int .i64 x.1, .int .i64 x.2.1, .int .i64 x.2.2] 39 (0, 0)) := by
            rw [← hV0, World.putObj_heap_other (by have := lt_blk hD.l; omega)]; exact heap_alloc_new _ _
          have hb1 : V0.heap[w.heap.size]? = _ := (hX0.block _ (lt_blk hD.b1) hD.ne.2.1).trans hD.b1
          have hO1 : OwnL V0 (L + 1) A1 n1 c1 (putL [] (sel true ps)) := hD.o1.ex hX0 (fun b hb e => by have := (hD.o1.ltN b hb).1; omega)
          have HP := Lib.hid (append_c x A1 n1 c1 (L + 1) _ V0 hO1 hD.p1 hpx hwx (by omega) (by have := sel_len true ps; have := hD.o1.1; omega))
          have HSt := Lib.hid (fun (V4 : World) (A' : Option Addr) (n' c' : Nat) (hO : OwnL V4 (L + 1) A' n' c' (addL (putL [] (sel true ps)) x)) (hG : V0.grownBy V4 (ob A1)) (hor : ob A' = ob A1 ∨ ∀ b, ob A' = some b → V0.heap.size ≤ b) =>
            hD.step (by omega) (o := .cells #[.int .i64 x.1, .int .i64 x.2.1, .int .i64 x.2.2] 39) (r' := r') (V4 := V4) hO (by rw [hV0]; exact hG) (by rw [hV0]; exact hor) (poss_add hD.p1 hpx))
          have hltB := lt_blk hb1
          have hA1b : ∀ k, ob A1 = some k → L + 1 ≤ k := fun k hk => (hD.o1.ltN k hk).1
          have hLB1 := hD.lt.2.2.1
          have cb := (cell_one hb1).1
          have cx := And.intro (cell_of_row _ _ 0 _ _ _ hbx) (And.intro (cell_of_row _ _ 1 _ _ _ hbx) (cell_of_row _ _ 2 _ _ _ hbx))
          simp only [List.getElem?_toArray, List.getElem?_cons_zero, List.getElem?_cons_succ] at cx
          obtain ⟨cx0, cx1, cx2⟩ := cx
          have HB1 := Lib.hid hb1
          rw [hV0]
          clear hV0 hX0 hbx hD hO1 hb1
          unfold ltV at HP
          gi_wp2_with (refine ⟨trivial, (fun h => absurd h (by decide)), ?_⟩; gi_at_call 85; refine (CallsIn.inRound L (callsIn_wide.2 HP.out)).mono ?_; rintro e V4 ⟨A', n', c', rfl, hO4, hG4, hor4⟩; have hb4 : V4.heap[w.heap.size]? = _ := (hG4.block w.heap.size hltB (fun e => by have := hA1b w.heap.size e.symm; omega)).trans HB1.out; have c4 := (cell_one hb4).1; have f4 := (cell_one hb4).2)
          obtain ⟨g1, g2, g3, g4⟩ := HSt.out V4 A' n' c' hO4 hG4 hor4
          exact ⟨g1, _, ⟨A', n', c', A2, n2, c2, by rw [sel_hit true ps x, show false = !true from rfl, sel_miss true ps x]; exact g2, rfl⟩, g3, g4⟩
    have h0 : JV (L + 1) L D w.heap.size (w.heap.size + 1) r [] (XV L D w.heap.size (w.heap.size + 1) none none) W1 :=
      ⟨none, 0, 0, none, 0, 0, ⟨⟨by omega, by omega, by omega, by omega⟩, ⟨by omega, by omega, by omega, by omega, by omega, by omega⟩, hL1, hD1, (hE21.block (by omega)).trans hbt, (hE21.block (by omega)).trans hbl, OwnL.nil _ _, OwnL.nil _ _, apart_none _, by simp [sel, putL], by simp [sel, putL]⟩, rfl⟩
    have hxv : ∀ i, XV L D w.heap.size (w.heap.size + 1) none none i → i = L ∨ i = D ∨ i = w.heap.size ∨ i = w.heap.size + 1 := fun i hi => by
      rcases hi with h | h | h | h | h | h
      · exact .inl h
      · exact .inr (.inl h)
      · exact .inr (.inr (.inl h))
      · exact .inr (.inr (.inr h))
      · cases h
      · cases h
    have hC1 := spieces1_c hJ rfl W1 (w.heap.size + 1 + 1) (w.heap.size + 1 + 1 + 1) A n c l As ns cs s ((hA.e hEw).e hE21) ((hS.e hEw).e hE21) HAN.out.1 HAN.out.2 HP.out.1 HP.out.2 HCan.out ((hE21.block (by omega)).trans hba) ((hE21.block (by omega)).trans hbc) HCnt.out hns _ h0
      (fun h => by rcases hxv _ h with h | h | h | h <;> omega) (fun h => by rcases hxv _ h with h | h | h | h <;> omega)
    rw [hLd]
    refine (show Calls Try.prog 103 (#[.func (.yield L) #[] #[]] ++ #[ptr (w.heap.size + 1 + 1), ptr (w.heap.size + 1 + 1 + 1)]) W1 _ from hC1).mono ?_
    rintro e W' ⟨hv, ps, us, X', hPt, ⟨⟨A1, n1, c1, A2, n2, c2, hD, rfl⟩, rfl, _⟩ | ⟨hf, _⟩, hX, _⟩
    · have hpos : ∀ f, ∀ x ∈ sel f ps, 0 ≤ x.2.2 := fun f x hx => by
        simp only [sel, List.mem_map, List.mem_filter] at hx
        obtain ⟨p, ⟨hp, _⟩, rfl⟩ := hx
        have := hPt.pos p hp; omega
      have e1 : putL [] (sel true ps) = glue (inU s (U l)) := by rw [putN_eq (hpos true), hPt.ins]
      have e2 : putL [] (sel false ps) = glue (outU s (U l)) := by rw [putN_eq (hpos false), hPt.out]
      rw [e1, e2] at hD
      refine ⟨hv, .inl ⟨hD.l, A1, n1, c1, A2, n2, c2, hD.b1, hD.b2, by rw [hDd]; exact hD.d, hD.o1.rebase (by omega), hD.o2.rebase (by omega), hD.ap, hD.p1, hD.p2, ?_⟩⟩
      refine (Ex.of_e (X := fun _ => False) (hEw.trans hE21)).trans hX (fun _ _ x => x.elim) (fun i hi x => ?_)
      rcases hxv i x with h | h | h | h <;> omega
    · exact hf.elim
  case done =>
    rintro W' o ⟨A1, n1, c1, A2, n2, c2, hb1, hb2, hd, hO1, hO2, hap, hp1, hp2, hE⟩ hlt
    have vX : Ex (fun i => i = w2.heap.size + 1) W' (W'.putObj (w2.heap.size + 1) o) := (Ex.refl (fun i => i = w2.heap.size + 1) W').put _ _ (.inr rfl)
    have v1 : (W'.putObj (w2.heap.size + 1) o).heap[w.heap.size]? = _ := (World.putObj_heap_other (by omega)).trans hb1
    have v2 : (W'.putObj (w2.heap.size + 1) o).heap[w.heap.size + 1]? = _ := (World.putObj_heap_other (by omega)).trans hb2
    have vD : (W'.putObj (w2.heap.size + 1) o).heap[w2.heap.size]? = _ := (World.putObj_heap_other (by omega)).trans hd
    have vO1 : OwnL (W'.putObj (w2.heap.size + 1) o) (w2.heap.size + 2) A1 n1 c1 _ := hO1.ex vX (fun b hb e => by have := (hO1.ltN b hb).1; omega)
    have vO2 : OwnL (W'.putObj (w2.heap.size + 1) o) (w2.heap.size + 2) A2 n2 c2 _ := hO2.ex vX (fun b hb e => by have := (hO2.ltN b hb).1; omega)
    have vE : Ex (fun _ => False) w (W'.putObj (w2.heap.size + 1) o) := hE.put _ _ (.inl (by omega))
    obtain ⟨V, hV⟩ : ∃ V, W'.putObj (w2.heap.size + 1) o = V := ⟨_, rfl⟩
    obtain ⟨D, hDd⟩ : ∃ D, w2.heap.size = D := ⟨_, rfl⟩
    have hDg : w.heap.size + 1 < D := by omega
    rw [hV] at v1 v2 vD vO1 vO2 vE ⊢
    rw [hDd] at vD vO1 vO2 ⊢
    obtain ⟨q1, f1⟩ := cell_one v1
    obtain ⟨q2, f2⟩ := cell_one v2
    clear hV hDd hlt hz2 hbt hbl hba hbc hb1 hb2 hd hO1 hO2 hE vX
    gi_wp2
    gi_region
    all_goals gi_wp2
    obtain ⟨V5, hV5⟩ : ∃ V5, ((V.setCell ⟨w.heap.size, 0, none⟩ (.slice A1 n1 c1)).setCell ⟨w.heap.size + 1, 0, none⟩ (.slice A2 n2 c2)).drew = V5 := ⟨_, rfl⟩
    have x5 : Ex (fun i => i = w.heap.size ∨ i = w.heap.size + 1) V V5 := by
      rw [← hV5]
      exact (((Ex.refl (fun i => i = w.heap.size ∨ i = w.heap.size + 1) V).setCell ⟨w.heap.size, 0, none⟩ (.inr (.inl rfl)) _).setCell ⟨w.heap.size + 1, 0, none⟩ (.inr (.inr rfl)) _).drew
    have s1 : V5.heap[w.heap.size]? = some (.cells #[.slice A1 n1 c1] 22 (0, 0)) := by
      rw [← hV5]
      exact (Below.heap_setCell _ _ _ _ (by show w.heap.size ≠ w.heap.size + 1; omega)).trans (heap_setCell_same _ _ 0 _ _ _ v1)
    have s2 : V5.heap[w.heap.size + 1]? = some (.cells #[.slice A2 n2 c2] 22 (0, 0)) := by
      rw [← hV5]
      exact heap_setCell_same _ _ 0 _ _ (.slice A2 n2 c2) ((Below.heap_setCell _ _ _ _ (by show w.heap.size + 1 ≠ w.heap.size; omega)).trans v2)
    have sD : V5.heap[D]? = some (.deferred (some [])) := (x5.block D (lt_blk vD) (by omega)).trans vD
    rw [hV5]
    clear hV5
    refine ⟨by simp, .inl ⟨_, _, rfl, run_takeDeferred sD, ?_⟩⟩
    have x6 : Ex (fun i => i = w.heap.size ∨ i = w.heap.size + 1 ∨ i = D) V (V5.putObj D (.deferred none)) := (x5.mono (Z := fun i => i = w.heap.size ∨ i = w.heap.size + 1 ∨ i = D) (fun _ _ x => x.elim .inl (fun x => .inr (.inl x)))).put _ _ (.inr (.inr (.inr rfl)))
    have r1 := (cell_one (show (V5.putObj D (.deferred none)).heap[w.heap.size]? = _ from (World.putObj_heap_other (by omega)).trans s1)).1
    have r2 := (cell_one (show (V5.putObj D (.deferred none)).heap[w.heap.size + 1]? = _ from (World.putObj_heap_other (by omega)).trans s2)).1
    refine ⟨_, results_cell2 rfl rfl rfl (loadVar_lots r1) (loadVar_lots r2), A1, n1, c1, A2, n2, c2, rfl, (vO1.ex x6 (fun b hb e => by have := (vO1.ltN b hb).1; omega)).rebase (by omega), (vO2.ex x6 (fun b hb e => by have := (vO2.ltN b hb).1; omega)).rebase (by omega), hap, hp1, hp2, ?_⟩
    exact vE.trans x6 (fun _ _ x => x) (fun i hi x => by omega)
end Go.Proofs.Ytgbamgijpgjmgaa
/- Sets of lots: plain facts; Set, Minus, Meet, Without. -/
namespace Go.Proofs.Ytgbamgijpgjmgaa
open Go.RowKit Go.Sort

theorem set_steps {l : List Lt} (hl : ∀ x ∈ l, possB x = true) (hs : l.Pairwise fun x y => ltOf cmpL y x = false) : ∀ k, k ≤ l.length → ∃ S, SetSt l k S ∧ S.length ≤ k
  | 0, _ => ⟨[], SetSt.start l, Nat.le_refl _⟩
  | k + 1, hk => by
    obtain ⟨S, h1, h2⟩ := set_steps hl hs k (by omega)
    have hx : l[k]? = some l[k] := List.getElem?_eq_getElem (by omega)
    have hpx := hl _ (List.getElem_mem (show k < l.length by omega))
    rcases snoc_cases S with rfl | ⟨T, p, rfl⟩
    · exact ⟨_, h1.first hx hpx, by simp⟩
    · by_cases hc : p.1 = (l[k]).1 ∧ (l[k]).2.1 ≤ p.2.1 + p.2.2
      · exact ⟨_, h1.join hs hx hpx hc, by simp at h2 ⊢; omega⟩
      · exact ⟨_, h1.new hs hx hpx hc, by simp at h2 ⊢; omega⟩
theorem setS_facts {l : List Lt} (hl : ∀ x ∈ l, possB x = true) : Canon (setS l) ∧ (setS l).length ≤ l.length ∧ ∀ x ∈ setS l, possB x = true := by
  have hp : (l.mergeSort fun x y => !ltOf cmpL y x).Perm l := List.mergeSort_perm _ _
  have hs : (l.mergeSort fun x y => !ltOf cmpL y x).Pairwise fun x y => ltOf cmpL y x = false := by
    have := List.pairwise_mergeSort (le := fun x y => !ltOf cmpL y x) (fun a b c h1 h2 => by
      simp only [Bool.not_eq_true'] at *
      exact cmpL_swo.ntrans _ _ _ h2 h1) (fun a b => by
      simp only [Bool.or_eq_true, Bool.not_eq_true', Bool.eq_false_iff, ne_eq, cmpL_lt]
      omega) l
    exact this.imp fun h => by simpa using h
  obtain ⟨S, h1, h2⟩ := set_steps (fun x hx => hl x (hp.mem_iff.1 hx)) hs _ (Nat.le_refl _)
  have e := h1.done hp (Nat.le_refl _)
  rw [← e]
  exact ⟨h1.can, by rw [hp.length_eq] at h2; exact h2, h1.poss⟩

set_option maxHeartbeats 4000000 in
set_option maxRecDepth 100000 in
theorem lSet_c (A : Option Addr) (n c : Nat) (l : List Lt) (w : World) (h : LotsAt w A n c l) : Calls Try.prog 30 #[.slice A n c] w (RetL w (lset l)) := by
  have HV := Lib.hid (valid_c A n c l w h)
  cases hv : validB l
  · rw [hv] at HV
    have HF := Lib.hid (show lset l = [] by rw [lset, hv]; rfl)
    clear hv
    go_enter Try.func30, Try.ntmps30
    go_wp2_with fail
    refine HV.out.mono ?_
    rintro e w2 ⟨rfl, hE2⟩
    go_wp2_with fail
    go_ret
    exact RetL.mk_ HF.out (OwnL.nil _ _) hE2
  · rw [hv] at HV
    have HF := Lib.hid (show lset l = setS l by rw [lset, hv]; rfl)
    obtain ⟨v1, v2⟩ := validB_iff.1 hv
    have hl := h.len
    have HS := Lib.hid (fun W (hE : E w W) => spSet_c A n c l W (h.e hE) v2 (by omega))
    clear hv v1 v2 hl
    go_enter Try.func30, Try.ntmps30
    go_wp2_with fail
    refine HV.out.mono ?_
    rintro e w2 ⟨rfl, hE2⟩
    go_wp2_with fail
    refine (HS.out _ hE2).mono ?_
    rintro e w3 ⟨A3, n3, c3, rfl, hO3, hE3⟩
    have hle := hE2.le
    go_wp2_with fail
    go_ret
    exact RetL.mk_ HF.out (hO3.rebase hle) (hE2.trans hE3)
set_option maxHeartbeats 8000000 in
set_option maxRecDepth 100000 in
theorem lMinus_c (A : Option Addr) (n c : Nat) (l : List Lt) (A' : Option Addr) (n' c' : Nat) (l' : List Lt) (w : World) (h1 : LotsAt w A n c l) (h2 : LotsAt w A' n' c' l') (hn : n ≤ 300) (hn' : n' ≤ 300) :
    Calls Try.prog 32 #[.slice A n c, .slice A' n' c'] w (RetL w (lminus l l')) := by
  have HV := Lib.hid (valid_c A n c l w h1)
  have HV2 := Lib.hid (fun W (hE : E w W) => valid_c A' n' c' l' W (h2.e hE))
  cases hv : validB l
  · rw [hv] at HV
    have HF := Lib.hid (show lminus l l' = [] by rw [lminus, hv]; rfl)
    clear hv
    go_enter Try.func32, Try.ntmps32
    go_wp2_with fail
    refine HV.out.mono ?_
    rintro e w2 ⟨rfl, hE2⟩
    go_wp2_with fail
    go_ret
    exact RetL.mk_ HF.out (OwnL.nil _ _) hE2
  · rw [hv] at HV
    cases hv2 : validB l'
    · rw [hv2] at HV2
      have HF := Lib.hid (show lminus l l' = [] by rw [lminus, hv, hv2]; rfl)
      clear hv hv2
      go_enter Try.func32, Try.ntmps32
      go_wp2_with fail
      refine HV.out.mono ?_
      rintro e w2 ⟨rfl, hE2⟩
      go_wp2_with fail
      refine (HV2.out _ hE2).mono ?_
      rintro e w3 ⟨rfl, hE3⟩
      go_wp2_with fail
      go_ret
      exact RetL.mk_ HF.out (OwnL.nil _ _) (hE2.trans hE3)
    · rw [hv2] at HV2
      obtain ⟨v1, v2⟩ := validB_iff.1 hv
      obtain ⟨u1, u2⟩ := validB_iff.1 hv2
      have hl1 := h1.len
      have hl2 := h2.len
      obtain ⟨k1, k2, k3⟩ := setS_facts v2
      obtain ⟨m1, m2, m3⟩ := setS_facts u2
      have HF := Lib.hid (show lminus l l' = glue (outU (setS l') (U (setS l))) by rw [lminus, hv, hv2, outU_congr (fun u => mem_setS)]; rfl)
      have HS1 := Lib.hid (fun W (hE : E w W) => spSet_c A n c l W (h1.e hE) v2 (by omega))
      have HS2 := Lib.hid (fun W (hE : E w W) => spSet_c A' n' c' l' W (h2.e hE) u2 (by omega))
      have HM := Lib.hid (And.intro k1 (And.intro k3 (And.intro m1 m3)))
      have HPl := Lib.hid v2
      have hkl : (setS l).length ≤ 300 := by omega
      have hml : (setS l').length ≤ 300 := by omega
      have HKL := Lib.hid (And.intro hkl hml)
      clear hv hv2 v1 v2 u1 u2 k1 k2 k3 m1 m2 m3 hl1 hl2 hkl hml
      go_enter Try.func32, Try.ntmps32
      go_wp2_with fail
      refine HV.out.mono ?_
      rintro e w2 ⟨rfl, hE2⟩
      go_wp2_with fail
      refine (HV2.out _ hE2).mono ?_
      rintro e w3 ⟨rfl, hE3⟩
      have hE23 := hE2.trans hE3
      go_wp2_with fail
      refine (HS1.out _ hE23).mono ?_
      rintro e w4 ⟨A4, n4, c4, rfl, hO4, hE4⟩
      have hE24 := hE23.trans hE4
      go_wp2_with fail
      refine (HS2.out _ hE24).mono ?_
      rintro e w5 ⟨A5, n5, c5, rfl, hO5, hE5⟩
      have hE25 := hE24.trans hE5
      have q5 : n5 ≤ 300 := by have := hO5.1; have := HKL.out.2; omega
      have q4 : n4 ≤ 300 := by have := hO4.1; have := HKL.out.1; omega
      have HD := Lib.hid (spDivide_c w5 A4 n4 c4 (setS l) A5 n5 c5 (setS l') (hO4.reads.e hE5) hO5.reads HM.out.2.1 HM.out.2.2.2 HM.out.2.2.1 (Nat.le_trans (Nat.mul_le_mul q4 (show 2 * n5 + 1 ≤ 601 by omega)) (by omega)) (by omega))
      have hle := hE25.le
      go_wp2_with fail
      refine HD.out.mono ?_
      rintro e w6 ⟨A6, n6, c6, A7, n7, c7, rfl, hOa, hOb, _, _, _, hX⟩
      have hE6 := hE25.trans (hX.e (fun i hi => hi.elim))
      go_wp2_with fail
      go_ret
      exact RetL.mk_ HF.out (hOb.rebase hle) hE6
set_option maxHeartbeats 8000000 in
set_option maxRecDepth 100000 in
theorem lMeet_c (A : Option Addr) (n c : Nat) (l : List Lt) (A' : Option Addr) (n' c' : Nat) (l' : List Lt) (w : World) (h1 : LotsAt w A n c l) (h2 : LotsAt w A' n' c' l') (hn : n ≤ 300) (hn' : n' ≤ 300) :
    Calls Try.prog 27 #[.slice A n c, .slice A' n' c'] w (RetL w (lmeet l l')) := by
  have HV := Lib.hid (valid_c A n c l w h1)
  have HV2 := Lib.hid (fun W (hE : E w W) => valid_c A' n' c' l' W (h2.e hE))
  cases hv : validB l
  · rw [hv] at HV
    have HF := Lib.hid (show lmeet l l' = [] by rw [lmeet, hv]; rfl)
    clear hv
    go_enter Try.func27, Try.ntmps27
    go_wp2_with fail
    refine HV.out.mono ?_
    rintro e w2 ⟨rfl, hE2⟩
    go_wp2_with fail
    go_ret
    exact RetL.mk_ HF.out (OwnL.nil _ _) hE2
  · rw [hv] at HV
    cases hv2 : validB l'
    · rw [hv2] at HV2
      have HF := Lib.hid (show lmeet l l' = [] by rw [lmeet, hv, hv2]; rfl)
      clear hv hv2
      go_enter Try.func27, Try.ntmps27
      go_wp2_with fail
      refine HV.out.mono ?_
      rintro e w2 ⟨rfl, hE2⟩
      go_wp2_with fail
      refine (HV2.out _ hE2).mono ?_
      rintro e w3 ⟨rfl, hE3⟩
      go_wp2_with fail
      go_ret
      exact RetL.mk_ HF.out (OwnL.nil _ _) (hE2.trans hE3)
    · rw [hv2] at HV2
      obtain ⟨v1, v2⟩ := validB_iff.1 hv
      obtain ⟨u1, u2⟩ := validB_iff.1 hv2
      have hl1 := h1.len
      have hl2 := h2.len
      obtain ⟨k1, k2, k3⟩ := setS_facts v2
      obtain ⟨m1, m2, m3⟩ := setS_facts u2
      have HF := Lib.hid (show lmeet l l' = glue (inU (setS l') (U (setS l))) by rw [lmeet, hv, hv2, inU_congr (fun u => mem_setS)]; rfl)
      have HS1 := Lib.hid (fun W (hE : E w W) => spSet_c A n c l W (h1.e hE) v2 (by omega))
      have HS2 := Lib.hid (fun W (hE : E w W) => spSet_c A' n' c' l' W (h2.e hE) u2 (by omega))
      have HM := Lib.hid (And.intro k1 (And.intro k3 (And.intro m1 m3)))
      have HPl := Lib.hid v2
      have hkl : (setS l).length ≤ 300 := by omega
      have hml : (setS l').length ≤ 300 := by omega
      have HKL := Lib.hid (And.intro hkl hml)
      clear hv hv2 v1 v2 u1 u2 k1 k2 k3 m1 m2 m3 hl1 hl2 hkl hml
      go_enter Try.func27, Try.ntmps27
      go_wp2_with fail
      refine HV.out.mono ?_
      rintro e w2 ⟨rfl, hE2⟩
      go_wp2_with fail
      refine (HV2.out _ hE2).mono ?_
      rintro e w3 ⟨rfl, hE3⟩
      have hE23 := hE2.trans hE3
      go_wp2_with fail
      refine (HS1.out _ hE23).mono ?_
      rintro e w4 ⟨A4, n4, c4, rfl, hO4, hE4⟩
      have hE24 := hE23.trans hE4
      go_wp2_with fail
      refine (HS2.out _ hE24).mono ?_
      rintro e w5 ⟨A5, n5, c5, rfl, hO5, hE5⟩
      have hE25 := hE24.trans hE5
      have q5 : n5 ≤ 300 := by have := hO5.1; have := HKL.out.2; omega
      have q4 : n4 ≤ 300 := by have := hO4.1; have := HKL.out.1; omega
      have HD := Lib.hid (spDivide_c w5 A4 n4 c4 (setS l) A5 n5 c5 (setS l') (hO4.reads.e hE5) hO5.reads HM.out.2.1 HM.out.2.2.2 HM.out.2.2.1 (Nat.le_trans (Nat.mul_le_mul q4 (show 2 * n5 + 1 ≤ 601 by omega)) (by omega)) (by omega))
      have hle := hE25.le
      go_wp2_with fail
      refine HD.out.mono ?_
      rintro e w6 ⟨A6, n6, c6, A7, n7, c7, rfl, hOa, hOb, _, _, _, hX⟩
      have hE6 := hE25.trans (hX.e (fun i hi => hi.elim))
      go_wp2_with fail
      go_ret
      exact RetL.mk_ HF.out (hOa.rebase hle) hE6
set_option maxHeartbeats 8000000 in
set_option maxRecDepth 100000 in
theorem lWithout_c (A : Option Addr) (n c : Nat) (l : List Lt) (A' : Option Addr) (n' c' : Nat) (l' : List Lt) (w : World) (h1 : LotsAt w A n c l) (h2 : LotsAt w A' n' c' l') (hn : n ≤ 300) (hn' : n' ≤ 300) :
    Calls Try.prog 33 #[.slice A n c, .slice A' n' c'] w (RetL w (lwithout l l')) := by
  have HV := Lib.hid (valid_c A n c l w h1)
  have HV2 := Lib.hid (fun W (hE : E w W) => valid_c A' n' c' l' W (h2.e hE))
  cases hv : validB l
  · rw [hv] at HV
    have HF := Lib.hid (show lwithout l l' = [] by rw [lwithout, hv]; rfl)
    clear hv
    go_enter Try.func33, Try.ntmps33
    go_wp2_with fail
    refine HV.out.mono ?_
    rintro e w2 ⟨rfl, hE2⟩
    go_wp2_with fail
    go_ret
    exact RetL.mk_ HF.out (OwnL.nil _ _) hE2
  · rw [hv] at HV
    cases hv2 : validB l'
    · rw [hv2] at HV2
      have HF := Lib.hid (show lwithout l l' = [] by rw [lwithout, hv, hv2]; rfl)
      clear hv hv2
      go_enter Try.func33, Try.ntmps33
      go_wp2_with fail
      refine HV.out.mono ?_
      rintro e w2 ⟨rfl, hE2⟩
      go_wp2_with fail
      refine (HV2.out _ hE2).mono ?_
      rintro e w3 ⟨rfl, hE3⟩
      go_wp2_with fail
      go_ret
      exact RetL.mk_ HF.out (OwnL.nil _ _) (hE2.trans hE3)
    · rw [hv2] at HV2
      obtain ⟨v1, v2⟩ := validB_iff.1 hv
      obtain ⟨u1, u2⟩ := validB_iff.1 hv2
      have hl1 := h1.len
      have hl2 := h2.len
      obtain ⟨k1, k2, k3⟩ := setS_facts v2
      obtain ⟨m1, m2, m3⟩ := setS_facts u2
      have HF := Lib.hid (show lwithout l l' = glue (outU (setS l') (U l)) by rw [lwithout, hv, hv2, outU_congr (fun u => mem_setS)]; rfl)
      have HS1 := Lib.hid (fun W (hE : E w W) => spSet_c A n c l W (h1.e hE) v2 (by omega))
      have HS2 := Lib.hid (fun W (hE : E w W) => spSet_c A' n' c' l' W (h2.e hE) u2 (by omega))
      have HM := Lib.hid (And.intro k1 (And.intro k3 (And.intro m1 m3)))
      have HPl := Lib.hid v2
      have hkl : (setS l).length ≤ 300 := by omega
      have hml : (setS l').length ≤ 300 := by omega
      have HKL := Lib.hid (And.intro hkl hml)
      clear hv hv2 v1 v2 u1 u2 k1 k2 k3 m1 m2 m3 hl1 hl2 hkl hml
      go_enter Try.func33, Try.ntmps33
      go_wp2_with fail
      refine HV.out.mono ?_
      rintro e w2 ⟨rfl, hE2⟩
      go_wp2_with fail
      refine (HV2.out _ hE2).mono ?_
      rintro e w3 ⟨rfl, hE3⟩
      have hE23 := hE2.trans hE3
      go_wp2_with fail
      have hE24 := hE23
      refine (HS2.out _ hE24).mono ?_
      rintro e w5 ⟨A5, n5, c5, rfl, hO5, hE5⟩
      have hE25 := hE24.trans hE5
      have q5 : n5 ≤ 300 := by have := hO5.1; have := HKL.out.2; omega
      have HD := Lib.hid (spDivide_c w5 A n c l A5 n5 c5 (setS l') (h1.e hE25) hO5.reads HPl.out HM.out.2.2.2 HM.out.2.2.1 (Nat.le_trans (Nat.mul_le_mul hn (show 2 * n5 + 1 ≤ 601 by omega)) (by omega)) (by omega))
      have hle := hE25.le
      go_wp2_with fail
      refine HD.out.mono ?_
      rintro e w6 ⟨A6, n6, c6, A7, n7, c7, rfl, hOa, hOb, _, _, _, hX⟩
      have hE6 := hE25.trans (hX.e (fun i hi => hi.elim))
      go_wp2_with fail
      go_ret
      exact RetL.mk_ HF.out (hOb.rebase hle) hE6
end Go.Proofs.Ytgbamgijpgjmgaa
