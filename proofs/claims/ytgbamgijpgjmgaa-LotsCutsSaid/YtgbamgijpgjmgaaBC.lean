/- Lemmas of the claim, joined: TL TM TN TO TP TQ. No condition. -/
import Derived.Test.YtgbamgijpgjmgaaBB
import Derived.Test.YtgbamgijpgjmgaaBA
/- firstUnits; pieces and its iterator: any count function, any consumer that never stops. -/
namespace Go.Proofs.Ytgbamgijpgjmgaa
open Go.RowKit Go.Shelf
attribute [local go_sem] Oper.semAt_some

def ptr (b : Nat) : Value := .pointer (some ⟨b, 0, none⟩)
theorem cell_one {w : World} {b : Nat} {v : Value} {T : TypeId} (h : w.heap[b]? = some (.cells #[v] T (0, 0))) : w.cell? ⟨b, 0, none⟩ = some v ∧ w.frozen? ⟨b, 0, none⟩ = false := ⟨cell_of_row _ _ 0 _ _ _ h, frozen_of_row _ _ 0 _ _ h⟩

/-- what a function value does that counts units lot by lot: its i-th call says the i-th number of ks; it turns the blocks Y alone; what it knows lies below N -/
structure Counter (gf : FuncId) (lb : List Value) (ks : List Int) (N : Nat) (Y : Nat → Prop) (Cn : Nat → World → Prop) : Prop where
  enters : ∀ (args : Array Value) (w : World), (callFunc gf args).run Try.prog w = .ok (.enter gf args) w
  ylt : ∀ b, Y b → b < N
  keep : ∀ (i : Nat) (w w' : World), Cn i w → (∀ b, b < N → w'.heap[b]? = w.heap[b]?) → Cn i w'
  step : ∀ (i : Nat) (k : Int) (w : World), ks[i]? = some k → Cn i w → N ≤ w.heap.size → Calls Try.prog gf (.int .i64 i :: lb).toArray w fun e w' => e = .returned (.int .i64 k) ∧ Cn (i + 1) w' ∧ Ex Y w w'

/-- how many of the first n units lie in each lot -/
def firstK : Int → List Lt → List Int
  | _, [] => []
  | n, x :: l => min n x.2.2 :: firstK (n - min n x.2.2) l
def leftK (n : Int) (l : List Lt) (i : Nat) : Int := n - (firstK n (l.take i)).sum
theorem firstK_len (n : Int) (l : List Lt) : (firstK n l).length = l.length := by
  induction l generalizing n with
  | nil => rfl
  | cons x l ih => simp [firstK, ih]
theorem firstK_get {n : Int} {l : List Lt} {i : Nat} {x : Lt} (h : l[i]? = some x) : (firstK n l)[i]? = some (min (leftK n l i) x.2.2) ∧ leftK n l (i + 1) = leftK n l i - min (leftK n l i) x.2.2 := by
  induction l generalizing n i with
  | nil => simp at h
  | cons y l ih =>
    cases i with
    | zero => simp at h; subst h; simp [firstK, leftK]
    | succ i =>
      obtain ⟨h1, h2⟩ := ih (n := n - min n y.2.2) (by simpa using h)
      have e : ∀ j, leftK n (y :: l) (j + 1) = leftK (n - min n y.2.2) l j := fun j => by
        simp only [leftK, List.take_succ_cons, firstK, List.sum_cons]; omega
      rw [e, e, ← h2]
      refine ⟨?_, rfl⟩
      rw [firstK, List.getElem?_cons_succ]; exact h1
theorem leftK_range {n : Int} {l : List Lt} (h0 : 0 ≤ n) (hl : ∀ x ∈ l, 1 ≤ x.2.2) (i : Nat) : 0 ≤ leftK n l i ∧ leftK n l i ≤ n := by
  induction l generalizing n i with
  | nil => simp [leftK, firstK]; exact h0
  | cons y l ih =>
    have hy := hl y List.mem_cons_self
    cases i with
    | zero => simp [leftK, firstK]; exact h0
    | succ i =>
      have h1 := ih (n := n - min n y.2.2) (by omega) (fun x hx => hl x (List.mem_cons_of_mem _ hx)) i
      have e : leftK n (y :: l) (i + 1) = leftK (n - min n y.2.2) l i := by
        simp only [leftK, List.take_succ_cons, firstK, List.sum_cons]; omega
      rw [e]; omega

/-- the memory of firstUnits's closure -/
def FuSt (n : Int) (A : Option Addr) (len c : Nat) (l : List Lt) (bl bn : Nat) (i : Nat) (w : World) : Prop :=
  w.heap[bl]? = some (.cells #[.slice A len c] 22 (0, 0)) ∧ w.heap[bn]? = some (.cells #[.int .i64 (leftK n l i)] 3 (0, 0)) ∧ LotsAt w A len c l
set_option maxHeartbeats 1000000 in
set_option maxRecDepth 100000 in
theorem firstUnits1_c (n : Int) (A : Option Addr) (len c : Nat) (l : List Lt) (bl bn i : Nat) (k : Int) (w : World) (h0 : 0 ≤ n) (h1 : n ≤ 1152921504606846976) (hl : ∀ x ∈ l, possB x = true) (hA : 0 < len → ∀ b, ob A = some b → b ≠ bn) (hne : bl ≠ bn) (hk : (firstK n l)[i]? = some k) (hS : FuSt n A len c l bl bn i w) :
    Calls Try.prog 74 #[.int .i64 i, ptr bn, ptr bl] w fun e w' => e = .returned (.int .i64 k) ∧ FuSt n A len c l bl bn (i + 1) w' ∧ Ex (fun b => b = bn) w w' := by
  obtain ⟨s1, s2, s3⟩ := hS
  have hi : i < len := by
    have := (List.getElem?_eq_some_iff.1 hk).1
    rw [firstK_len, s3.len] at this; exact this
  obtain ⟨b, o, x, rfl, hb, hx, hwx, c0, c1, c2⟩ := s3.get hi
  obtain ⟨g1, g2⟩ := firstK_get (n := n) hx
  rw [hk] at g1
  injection g1 with g1
  have hpx := possB_iff.1 (hl x (List.mem_of_getElem? hx))
  have hr := leftK_range h0 (fun y hy => (possB_iff.1 (hl y hy)).2.2.2.1) (l := l) i
  have hm63 := s3.n63
  have cb := cell_one s1
  have cn := cell_one s2
  have hbn : b ≠ bn := hA (by omega) b rfl
  have G2 := Lib.hid g2
  have S1 := Lib.hid s1
  have S2 := Lib.hid s2
  have S3 := Lib.hid s3
  obtain ⟨r, hre⟩ : ∃ r, leftK n l i = r := ⟨_, rfl⟩
  rw [hre] at g1 hr cn s2
  have HRE := Lib.hid hre
  obtain ⟨cb1, _⟩ := cb
  obtain ⟨cn1, fn1⟩ := cn
  clear g2 s1 s2 s3 hx hwx hk hre
  obtain ⟨f, a, m⟩ := x
  simp only at c0 c1 c2 hpx g1
  have hiI : (i : Int) < (len : Int) := by omega
  have hkr : min r m ≤ r := by omega
  have hkr0 : 0 ≤ min r m := by omega
  have HG1 := Lib.hid g1
  have hK : k = min r m := g1
  have hwr : IntKind.i64.wrap (r - k) = r - k := by rw [IntKind.wrap_i64]; omega
  clear g1
  have hif : (if m < r then m else r) = k := by split <;> omega
  have HIF := Lib.hid hif
  have HHK := Lib.hid hK
  clear hif hK HG1
  unfold ptr
  go_enter Try.func74, Try.ntmps74
  go_upto_region 1 with fail
  (refine wp_region_quiet_lit (by kernel_rfl) (by kernel_rfl) ?_; (repeat (first | ((with_reducible refine wpQuiet_step (fun K hK => ?_)); go_simp; (with_reducible refine hK _ ?_); clear hK K) | ((with_reducible refine wpQuiet_off (by kernel_rfl) (fun K hK => ?_)); go_simp; (with_reducible refine hK _ ?_); clear hK K))); (with_reducible refine wpQuiet_nil ?_); intro _ hw'; obtain ⟨nq, hw''⟩ := hw'; subst hw'')
  rw [HIF.out]
  obtain ⟨wa, hwa⟩ : ∃ wa, w.drewN nq = wa := ⟨_, rfl⟩
  rw [hwa]
  have hEa : E w wa := by rw [← hwa]; exact (E.refl w).drewN nq
  have S2a : wa.heap[bn]? = some (.cells #[.int .i64 r] 3 (0, 0)) := by rw [hEa.block (lt_blk S2.out), S2.out, HRE.out]
  clear cb1 cn1 fn1 c0 c1 c2 hwa
  obtain ⟨cn1, fn1⟩ := cell_one S2a
  have HS := Lib.hid (heap_setCell_same _ _ 0 _ _ (.int .i64 (r - k)) S2a)
  clear S2a
  go_wp2_with fail
  go_ret
  have hX : Ex (fun b => b = bn) w (wa.setCell ⟨bn, 0, none⟩ (.int .i64 (r - k))) := (Ex.of_e (X := fun b => b = bn) hEa).setCell ⟨bn, 0, none⟩ (.inr rfl) _
  refine ⟨rfl, ⟨(hX.block _ (lt_blk S1.out) hne).trans S1.out, ?_, S3.out.ex hX (fun h0 b' hb' e => hA h0 b' hb' e)⟩, hX⟩
  rw [HS.out, G2.out, HRE.out]
  show _ = some (Obj.cells #[.int .i64 (r - min r m)] _ _)
  rw [← HHK.out]
  rfl
theorem firstUnits_counter (n : Int) (A : Option Addr) (len c : Nat) (l : List Lt) (bl bn : Nat) (h0 : 0 ≤ n) (h1 : n ≤ 1152921504606846976) (hl : ∀ x ∈ l, possB x = true) (hA : 0 < len → ∀ b, ob A = some b → b < bl) (hne : bl < bn) :
    Counter 74 [ptr bn, ptr bl] (firstK n l) (bn + 1) (fun b => b = bn) (FuSt n A len c l bl bn) where
  enters := Try.call74
  ylt := fun b hb => by omega
  keep := fun i w w' hS hk => by
    obtain ⟨s1, s2, s3⟩ := hS
    refine ⟨(hk bl (by omega)).trans s1, (hk bn (by omega)).trans s2, ⟨s3.len, s3.cap, s3.mx, s3.wf, fun h => ?_⟩⟩
    obtain ⟨b, o, e, hb, hc⟩ := s3.at_ h
    have hbb := hk b (by have := hA h b (by rw [e]; rfl); omega)
    refine ⟨b, o, e, lt_blk (o := w.heap[b]) (by rw [hbb]; exact Array.getElem?_eq_getElem hb), fun i x hx => ?_⟩
    obtain ⟨c0, c1, c2⟩ := hc i x hx
    exact ⟨(World.cell?_of_block hbb).trans c0, (World.cell?_of_block hbb).trans c1, (World.cell?_of_block hbb).trans c2⟩
  step := fun i k w hk hS _ => firstUnits1_c n A len c l bl bn i k w h0 h1 hl (fun h0 b hb e => by have := hA h0 b hb; omega) (by omega) hk hS
theorem firstUnits_c (n : Int) (A : Option Addr) (len c : Nat) (l : List Lt) (w : World) (h : LotsAt w A len c l) :
    Calls Try.prog 49 #[.slice A len c, .int .i64 n] w fun e w' => e = .returned (.func (.func 74) #[] [ptr (w.heap.size + 1), ptr w.heap.size].toArray) ∧ FuSt n A len c l w.heap.size (w.heap.size + 1) 0 w' ∧ E w w' ∧ w'.heap.size = w.heap.size + 2 := by
  have hE := ((E.refl w).alloc (.cells #[.slice A len c] 22)).alloc (.cells #[.int .i64 n] 3)
  have h1 := heap_alloc_new w (.cells #[.slice A len c] 22)
  have h2 := heap_alloc_new (w.alloc (.cells #[.slice A len c] 22)) (.cells #[.int .i64 n] 3)
  rw [World.size_alloc] at h2
  have HR := Lib.hid (show FuSt n A len c l w.heap.size (w.heap.size + 1) 0 ((w.alloc (.cells #[.slice A len c] 22)).alloc (.cells #[.int .i64 n] 3)) by
    refine ⟨?_, ?_, h.e hE⟩
    · rw [Below.heap_alloc _ _ _ (by simp)]; exact h1
    · rw [h2]; simp [leftK, firstK])
  unfold ptr
  go_enter Try.func49, Try.ntmps49
  go_wp2_with fail
  go_ret
  exact ⟨rfl, HR.out, hE, by simp⟩
end Go.Proofs.Ytgbamgijpgjmgaa
/- pieces: its iterator, for any count function and any consumer that never stops. -/
namespace Go.Proofs.Ytgbamgijpgjmgaa
open Go.RowKit Go.Shelf
attribute [local go_sem] Oper.semAt_some

/-- the two pieces of each lot -/
def pcs : List Lt → List Int → List (Lt × Bool)
  | x :: l, k :: ks => ((x.1, x.2.1, k), true) :: ((x.1, x.2.1 + k, x.2.2 - k), false) :: pcs l ks
  | _, _ => []
theorem pcs_take {l : List Lt} {ks : List Int} {i : Nat} {x : Lt} {k : Int} (hx : l[i]? = some x) (hk : ks[i]? = some k) : pcs (l.take (i + 1)) (ks.take (i + 1)) = pcs (l.take i) (ks.take i) ++ [((x.1, x.2.1, k), true)] ++ [((x.1, x.2.1 + k, x.2.2 - k), false)] := by
  induction l generalizing ks i with
  | nil => simp at hx
  | cons y l ih =>
    cases ks with
    | nil => simp at hk
    | cons j ks =>
      cases i with
      | zero => simp at hx hk; subst hx hk; simp [pcs]
      | succ i =>
        have := ih (by simpa using hx) (by simpa using hk)
        rw [List.take_succ_cons, List.take_succ_cons, pcs, this, List.take_succ_cons, List.take_succ_cons, pcs]
        simp
theorem pcs_len : ∀ (l : List Lt) (ks : List Int), (pcs l ks).length ≤ 2 * l.length
  | [], _ => by simp [pcs]
  | _ :: _, [] => by simp [pcs]
  | x :: l, k :: ks => by
    have := pcs_len l ks
    simp only [pcs, List.length_cons]
    omega
/-- a consumer that takes every piece: what it has made of those so far (J), in the blocks X -/
structure Eats (L : Nat) (N : Nat) (J : List (Lt × Bool) → (Nat → Prop) → World → Prop) : Prop where
  lt : ∀ ps X W, J ps X W → ∀ i, X i → N ≤ i ∧ i < W.heap.size
  keep : ∀ ps X W W', J ps X W → (∀ i, X i → W'.heap[i]? = W.heap[i]?) → J ps X W'
  eat : ∀ ps X W (x : Lt) (f : Bool) (m : Nat), J ps X W → ps.length ≤ 300000 → (x.2.2 ≠ 0 → possB x = true) → WfL x →
    YieldAt Fence.wide m Try.prog L #[ltV x, .bool f] W fun e W' => e = .returned (.bool true) ∧ ∃ X', J (ps ++ [(x, f)]) X' W' ∧ Ex X W W' ∧ ∀ i, X' i → X i ∨ W.heap.size ≤ i

theorem pieces_c (v1 v2 : Value) (A : Option Addr) (n c : Nat) (gf : FuncId) (lb : List Value) (w : World) (h1 : v1 = .slice A n c) (h2 : v2 = .func (.func gf) #[] lb.toArray) :
    Calls Try.prog 81 #[v1, v2] w fun e w' => e = .returned (.func (.func 100) #[] #[ptr w.heap.size, ptr (w.heap.size + 1)]) ∧
      w' = (w.alloc (.cells #[v1] 22)).alloc (.cells #[v2] 65) := by
  subst h1 h2
  unfold ptr
  go_enter Try.func81, Try.ntmps81
  go_wp2_with fail
  go_ret
  exact ⟨rfl, rfl⟩

set_option maxHeartbeats 4000000 in
set_option maxRecDepth 100000 in
theorem pieces1_c {gf : FuncId} {lb : List Value} {ks : List Int} {N : Nat} {Y : Nat → Prop} {Cn : Nat → World → Prop} (hC : Counter gf lb ks N Y Cn) {L : Nat} {J : List (Lt × Bool) → (Nat → Prop) → World → Prop} (hJ : Eats L N J)
    (W1 : World) (Bl Bc : Nat) (A : Option Addr) (n c : Nat) (l : List Lt) (hA : LotsAt W1 A n c l) (hAY : 0 < n → ∀ b, ob A = some b → b < N ∧ ¬ Y b) (hp : ∀ x ∈ l, possB x = true) (hks : ks.length = n) (hk : ∀ (i : Nat) (x : Lt) (k : Int), l[i]? = some x → ks[i]? = some k → 0 ≤ k ∧ k ≤ x.2.2)
    (hl : W1.heap[Bl]? = some (.cells #[.slice A n c] 22 (0, 0))) (hc : W1.heap[Bc]? = some (.cells #[.func (.func gf) #[] lb.toArray] 65 (0, 0))) (hNl : N ≤ Bl) (hNc : N ≤ Bc) (hn : n ≤ 100000)
    (X0 : Nat → Prop) (h0 : J [] X0 W1) (hXl : ¬ X0 Bl) (hXc : ¬ X0 Bc) (hc0 : Cn 0 W1) :
    Calls Try.prog 100 #[.func (.yield L) #[] #[], ptr Bl, ptr Bc] W1 fun e W' => (∃ v, e = .returned v) ∧ ∃ X', J (pcs l ks) X' W' ∧ Cn n W' ∧ Ex (fun i => X0 i ∨ Y i) W1 W' ∧ ∀ i, X' i → X0 i ∨ W1.heap.size ≤ i := by
  have HC := Lib.hid hC
  have HJ := Lib.hid hJ
  have HAY := Lib.hid hAY
  have HP := Lib.hid hp
  have HK := Lib.hid hk
  have HX0 := Lib.hid (And.intro hXl hXc)
  have _HNl := Lib.hid hNl
  have hcall := hC.enters
  obtain ⟨cl, _⟩ := cell_one hl
  have HL := Lib.hid hl
  have HCc := Lib.hid hc
  have H0 := Lib.hid (And.intro h0 hc0)
  have HLen := Lib.hid (And.intro hA.len hks)
  clear hC hJ hAY hp hk hXl hXc hl hc h0 hc0 hks
  unfold ptr
  go_enter Try.func100, Try.ntmps100
  go_wp2_with fail
  go_loopw [9] (fun ti wr => ∃ (k : Nat) (X : Nat → Prop), k ≤ n ∧ ti = .int .i64 k ∧ Hid (J (pcs (l.take k) (ks.take k)) X wr) ∧ Hid (Cn k wr) ∧ Hid (Ex (fun i => X0 i ∨ Y i) W1 wr) ∧ Hid (∀ i, X i → X0 i ∨ W1.heap.size ≤ i)) (fun ti _ => n - (intOf ti).toNat)
  case atStart => exact ⟨0, X0, Nat.zero_le _, rfl, show J _ _ _ by simpa [pcs] using H0.out.1, H0.out.2, Ex.refl _ _, fun i hi => .inl hi⟩
  case round =>
    obtain ⟨k, X, hk, rfl, hJk, hCk, hX, hXX⟩ := hrel
    by_cases hlt : k < n
    · have hN0 := fun i hi => (HJ.out.lt _ _ _ H0.out.1 i hi).1
      have hA' := hA.ex hX.out (fun h0 b hb x => by
        rcases x with x | x
        · have := hN0 b x; have := (HAY.out h0 b hb).1; omega
        · exact (HAY.out h0 b hb).2 x)
      obtain ⟨b, o, x, rfl, hb, hx, hwx, c0, c1, c2⟩ := hA'.get hlt
      obtain ⟨kv, hkv⟩ : ∃ kv, ks[k]? = some kv := ⟨_, List.getElem?_eq_getElem (by rw [HLen.out.2]; exact hlt)⟩
      have hkr := HK.out k x kv hx hkv
      have hpx := possB_iff.1 (HP.out x (List.mem_of_getElem? hx))
      have HPC := Lib.hid (pcs_take hx hkv)
      have HXlt := Lib.hid (HJ.out.lt _ _ _ hJk.out)
      have hblx : ∀ i, N ≤ i → ¬ X0 i → ¬ (X0 i ∨ Y i) := fun i hi h0 h => by
        rcases h with h | h
        · exact h0 h
        · have := HC.out.ylt i h; omega
      have hcr : wr.heap[Bc]? = _ := (hX.out.block _ (lt_blk HCc.out) (hblx _ hNc HX0.out.2)).trans HCc.out
      obtain ⟨ccr, _⟩ := cell_one hcr
      have hEr : E wr (wr.alloc (.cells #[.int .i64 x.1, .int .i64 x.2.1, .int .i64 x.2.2] 39)) := (E.refl _).alloc _
      have hbx := heap_alloc_new wr (.cells #[.int .i64 x.1, .int .i64 x.2.1, .int .i64 x.2.2] 39)
      obtain ⟨w2, hw2⟩ : ∃ w2, wr.alloc (.cells #[.int .i64 x.1, .int .i64 x.2.1, .int .i64 x.2.2] 39) = w2 := ⟨_, rfl⟩
      have ccr2 : w2.cell? ⟨Bc, 0, none⟩ = some (.func (.func gf) #[] lb.toArray) := by rw [← hw2, hEr.cell (p := ⟨Bc, 0, none⟩) (lt_blk hcr)]; exact ccr
      rw [hw2] at hEr hbx
      have hWN : N ≤ wr.heap.size := Nat.le_trans hNc (Nat.le_of_lt (lt_blk hcr))
      have HCall := Lib.hid (HC.out.step k kv w2 hkv (HC.out.keep k wr w2 hCk.out (fun b hb => hEr.block (Nat.lt_of_lt_of_le hb hWN))) (Nat.le_trans hWN hEr.le))
      have HJ2 := Lib.hid (HJ.out.keep _ _ _ w2 hJk.out (fun i hi => hEr.block (HXlt.out i hi).2))
      have HW2 := Lib.hid hw2
      have HER := Lib.hid hEr
      have hkI : (k : Int) < (n : Int) := by omega
      clear hx hkv hw2 hcr hblx hA hA' cl ccr hEr
      obtain ⟨f, a, m⟩ := x
      simp only at c0 c1 c2 hkr hpx HPC hbx HW2 hwx
      go_upto_region 3 with fail
      rw [HW2.out]
      clear HW2
      go_wp2_with fail
      refine HCall.out.mono ?_
      rintro e wa ⟨rfl, hCa, hYa⟩
      have hYn : ∀ i, N ≤ i → ¬ Y i := fun i hi hy => by have := HC.out.ylt i hy; omega
      have hJa := HJ.out.keep _ _ _ wa HJ2.out (fun i hi => hYa.block i (Nat.lt_of_lt_of_le (HXlt.out i hi).2 HER.out.le) (hYn i (HXlt.out i hi).1))
      have hbxa : wa.heap[wr.heap.size]? = _ := (hYa.block _ (lt_blk hbx) (hYn _ hWN)).trans hbx
      have d0 := cell_of_row _ _ 0 _ _ _ hbxa
      have d1 := cell_of_row _ _ 1 _ _ _ hbxa
      have d2 := cell_of_row _ _ 2 _ _ _ hbxa
      simp only [List.getElem?_toArray, List.getElem?_cons_zero, List.getElem?_cons_succ] at d0 d1 d2
      obtain ⟨x1, x2⟩ := wf_i64 hwx.1
      obtain ⟨fn, tmps, assign, body, hy, hR⟩ := HJ.out.eat _ _ _ (f, a, kv) true 2 hJa (by have := pcs_len (l.take k) (ks.take k); rw [List.length_take] at this; omega) (fun h => possB_iff.2 (by simp only at h ⊢; omega)) ⟨hwx.1, wf_of_i64 (by simp only; omega) (by simp only; omega), wf_of_i64 (by simp only; omega) (by simp only; omega)⟩
      unfold ltV at hy
      simp only at hy
      have hwr1 : IntKind.i64.wrap (a + kv) = a + kv := by rw [IntKind.wrap_i64]; omega
      have hwr2 : IntKind.i64.wrap (m - kv) = m - kv := by rw [IntKind.wrap_i64]; omega
      have HBXA := Lib.hid hbxa
      have HYA := Lib.hid hYa
      clear hbxa hYa hbx c0 c1 c2 ccr2 hb
      go_upto_region 4 with fail
      refine (wpIn_wide (n := 3)).1 ?_
      gi_wp2
      refine hR.mono ?_
      rintro e wb ⟨rfl, X2, hJb, hXb, hX2⟩
      clear hR hy d0 d1 d2
      have hnx : ¬ X wr.heap.size := fun h => by have := (HXlt.out _ h).2; omega
      have hbxb : wb.heap[wr.heap.size]? = _ := (hXb.block _ (lt_blk HBXA.out) hnx).trans HBXA.out
      have d0 := cell_of_row _ _ 0 _ _ _ hbxb
      have d1 := cell_of_row _ _ 1 _ _ _ hbxb
      have d2 := cell_of_row _ _ 2 _ _ _ hbxb
      simp only [List.getElem?_toArray, List.getElem?_cons_zero, List.getElem?_cons_succ] at d0 d1 d2
      obtain ⟨fn, tmps, assign, body, hy, hR⟩ := HJ.out.eat _ _ _ (f, a + kv, m - kv) false 2 hJb (by rw [List.length_append]; have := pcs_len (l.take k) (ks.take k); rw [List.length_take] at this; simp only [List.length_singleton]; omega) (fun h => possB_iff.2 (by simp only at h ⊢; omega)) ⟨hwx.1, wf_of_i64 (by simp only; omega) (by simp only; omega), wf_of_i64 (by simp only; omega) (by simp only; omega)⟩
      unfold ltV at hy
      simp only at hy
      clear hbxb
      gi_wp2
      refine hR.mono ?_
      rintro e wc ⟨rfl, X3, hJc, hXc, hX3⟩
      clear hR hy d0 d1 d2
      gi_wp2
      have hb3 : ∀ i, X2 i → N ≤ i := fun i hi => by
        rcases hX2 i hi with h | h
        · exact (HXlt.out i h).1
        · have := HER.out.le; have := HYA.out.size; omega
      have hCc := Lib.hid (HC.out.keep _ _ wc (HC.out.keep _ _ wb hCa (fun b hb => hXb.block b (Nat.lt_of_lt_of_le hb (Nat.le_trans hWN (Nat.le_trans HER.out.le HYA.out.size))) (fun h => by have := (HXlt.out b h).1; omega))) (fun b hb => hXc.block b (Nat.lt_of_lt_of_le hb (Nat.le_trans hWN (Nat.le_trans HER.out.le (Nat.le_trans HYA.out.size hXb.size)))) (fun h => by have := hb3 b h; omega)))
      have hX0' : ∀ i, X i → X0 i ∨ W1.heap.size ≤ i := hXX.out
      have hs1 : W1.heap.size ≤ wr.heap.size := hX.out.size
      have hs2 := HER.out.le
      have hs3 := HYA.out.size
      have hs4 := hXb.size
      have hX2' : ∀ i, X2 i → X0 i ∨ W1.heap.size ≤ i := fun i hi => by
        rcases hX2 i hi with h | h
        · exact hX0' i h
        · right; omega
      have hX3' : ∀ i, X3 i → X0 i ∨ W1.heap.size ≤ i := fun i hi => by
        rcases hX3 i hi with h | h
        · exact hX2' i h
        · right; omega
      have hEx := Lib.hid (show Ex (fun i => X0 i ∨ Y i) W1 wc from
        ((((hX.out.trans (Ex.of_e (X := fun _ => False) HER.out) (fun _ _ x => x) (fun _ _ y => y.elim)).trans HYA.out (Z := fun i => X0 i ∨ Y i) (fun _ _ x => x) (fun _ _ y => .inr y)).trans hXb (Z := fun i => X0 i ∨ Y i) (fun _ _ x => x) (fun i hi y => by
          rcases hX0' i y with h | h
          · exact .inl h
          · omega)).trans hXc (Z := fun i => X0 i ∨ Y i) (fun _ _ x => x) (fun i hi y => by
          rcases hX2' i y with h | h
          · exact .inl h
          · omega)))
      have hJf := Lib.hid (show J (pcs (l.take (k + 1)) (ks.take (k + 1))) X3 wc by rw [HPC.out]; exact hJc)
      have hX3f := Lib.hid hX3'
      clear hX3' hX2' hX0' hb3 hJa hJb hJc hXb hXc hX2 hX3 hCa
      go_wp2_with fail
      go_roundw
      case rel => exact ⟨k + 1, X3, by omega, by go_num, hJf.out, hCc.out, hEx.out, hX3f.out⟩
      case measure => simp [intOf]; omega
    · have hJf := Lib.hid (show J (pcs l ks) X wr by
        have := hJk.out
        rw [List.take_of_length_le (by rw [HLen.out.1]; omega), List.take_of_length_le (by rw [HLen.out.2]; omega)] at this
        exact this)
      have hCf := Lib.hid (show Cn n wr by rw [show n = k by omega]; exact hCk.out)
      go_wp2_with fail
      go_end0
      exact ⟨⟨_, rfl⟩, X, hJf.out, hCf.out, hX.out, hXX.out⟩
end Go.Proofs.Ytgbamgijpgjmgaa
/- A range over a function whose body may allocate on entry, and may return: one round, and the statement. -/
namespace Go.Proofs.Ytgbamgijpgjmgaa
open Go.RowKit Go.Shelf
attribute [local go_sem] Oper.semAt_some

/-- one round: the assignment leads to W2, the body goes on (b true) or returns (b false) -/
theorem yield_round {P : Program} {m l : Nat} {r : Loop} {W W2 : World} {args : Array Value} (hl : W.heap[l]? = some (.loop r)) (hl2 : W2.heap[l]? = some (.loop r)) (hr : r.state = .ready) (hp : r.pending = none) (hs : args.size = r.params.size) {a₁ : Act} {R : World → Prop} {Rx : World → Prop}
    (hassign : ∀ (K : Act → World → Prop), K a₁ W2 → r.assign.wpIn (Fence.wide.inRound l) m P (Exit.then K (fun _ _ _ => False)) { tmps := (r.params.zip args).foldl (fun t (p, v) => t.setIfInBounds p v) r.tmps, defers := [] } W)
    (hbody : r.body.wpIn (Fence.wide.inRound l) m P (fun e _ V => V.heap[l]? = some (.loop { r with state := .busy }) ∧ ((e = .normal ∧ R (V.putObj l (.loop r))) ∨ (e = .ret ∧ Rx (V.putObj l (.loop { r with state := .done, pending := some .ret }))))) a₁ (W2.putObj l (.loop { r with state := .busy }))) :
    YieldAt Fence.wide m P l args W fun e W' => (e = .returned (.bool true) ∧ R W') ∨ (e = .returned (.bool false) ∧ Rx W') := by
  refine ⟨r.fn, _, r.assign, r.body, run_yield hl hs, roundIn_of_wpIn trivial (hassign _ ⟨_, run_beginRound hl2 hr, wpIn_mono hbody ?_⟩)⟩
  rintro e a V ⟨hV, hor⟩
  rcases hor with ⟨rfl, hR⟩ | ⟨rfl, hR⟩
  · refine ⟨_, _, run_endRound none hV, .inl ⟨rfl, ?_⟩⟩
    obtain ⟨st, pe, fn, tmps, ps, asg, bo, df⟩ := r
    simp only at hr hp hR ⊢
    subst hr hp
    exact hR
  · exact ⟨_, _, run_endRound (some .ret) hV, .inr ⟨rfl, hR⟩⟩

/-- the statement: the iterator's own contract, at this record; the body may have returned -/
theorem wp_rangeX {P : Program} {g : Operand} {ps : Array Tmp} {assign body : Code} {Q : Exit → Act → World → Prop} {a : Act} {w : World} {gf : Nat} {lb : Array Value} (hg : a.eval g = .func (.func gf) #[] lb) (eg : ∀ args w, (callFunc gf args).run P w = .ok (.enter gf args) w) {Post PostX : World → Prop}
    (hit : ∀ r : Loop, r.state = .ready → r.pending = none → r.tmps = a.tmps → r.params = ps → r.assign = assign → r.body = body → Calls P gf (#[.func (.yield (w.heap.size + 1)) #[] #[]] ++ lb) ((w.alloc (.deferred (some []))).alloc (.loop r))
      fun e W' => (∃ v, e = .returned v) ∧ ((W'.heap[w.heap.size + 1]? = some (.loop r) ∧ Post W') ∨ (W'.heap[w.heap.size + 1]? = some (.loop { r with state := .done, pending := some .ret }) ∧ PostX W')))
    (hdone : ∀ (W' : World) (o : Obj), Post W' → w.heap.size + 1 < W'.heap.size → Q .normal { a with defers := { target := .collected w.heap.size, args := #[] } :: a.defers } (W'.putObj (w.heap.size + 1) o))
    (hstop : ∀ (W' : World) (o : Obj), PostX W' → w.heap.size + 1 < W'.heap.size → Code.ret.wp P Q { a with defers := { target := .collected w.heap.size, args := #[] } :: a.defers } (W'.putObj (w.heap.size + 1) o)) :
    (Code.rangeFunc g ps assign body).wp P Q a w := by
  refine (wpIn_wide (n := 3)).1 (wpIn_rangeFunc ?_)
  intro fn hfn
  have hit' := hit { state := .ready, pending := none, fn, tmps := a.tmps, params := ps, assign, body, defers := w.heap.size } rfl rfl rfl rfl rfl rfl
  obtain ⟨W1, hW1⟩ : ∃ W1, (w.alloc (.deferred (some []))).alloc (.loop { state := .ready, pending := none, fn, tmps := a.tmps, params := ps, assign, body, defers := w.heap.size }) = W1 := ⟨_, rfl⟩
  rw [hW1] at hit'
  refine ⟨w.heap.size + 1, [{ target := .collected w.heap.size, args := #[] }], W1, { target := .fn (.func gf) lb, args := #[.func (.yield (w.heap.size + 1)) #[] #[]] }, W1, gf,
    #[.func (.yield (w.heap.size + 1)) #[] #[]] ++ lb, W1, ?_, ?_, ?_, ?_, ?_, ?_⟩
  · rw [← hW1]; exact run_enterLoop_outer _ _ _ _ _
  · simp only [resolve, hg]
    simp [go_sem]
  · intro f' hf'; trivial
  · simp [invoke, go_sem, eg]
  · intro h; cases h
  · refine callsIn_wide.2 (hit'.mono ?_)
    rintro e W2 ⟨⟨v, rfl⟩, ⟨hl, hP⟩ | ⟨hl, hP⟩⟩
    · exact ⟨none, _, run_endLoop hl (by simp), hdone _ _ hP (lt_blk hl)⟩
    · exact ⟨some .ret, _, run_endLoop hl (by simp), wpIn_wide.2 (hstop _ _ hP (lt_blk hl))⟩
end Go.Proofs.Ytgbamgijpgjmgaa
/- A consumer of pieces that puts them behind one of two rows: its state, and how it turns. -/
namespace Go.Proofs.Ytgbamgijpgjmgaa
open Go.RowKit Go.Shelf

theorem OwnL.same {w w' : World} {base : Nat} {A : Option Addr} {n c : Nat} {l : List Lt} (h : OwnL w base A n c l) (hb : ∀ b, ob A = some b → w'.heap[b]? = w.heap[b]?) : OwnL w' base A n c l := by
  refine ⟨h.1, ⟨h.2.1.1, ?_⟩, h.2.2⟩
  rcases h.2.1.2 with a2 | ⟨g, cap, cur, hv, hbg, hh, r⟩
  · exact .inl a2
  · have hA : A = some ⟨g, 0, none⟩ := by injection hv
    exact .inr ⟨g, cap, cur, hv, hbg, (hb g (by rw [hA]; rfl)).trans hh, r⟩
/-- the loop's record, its block of deferred calls, two boxes with a row of lots each -/
structure DVL (b0 L D B1 B2 : Nat) (r : Loop) (W : World) (A1 : Option Addr) (n1 c1 : Nat) (l1 : List Lt) (A2 : Option Addr) (n2 c2 : Nat) (l2 : List Lt) : Prop where
  lt : L < b0 ∧ D < b0 ∧ B1 < b0 ∧ B2 < b0
  ne : B1 ≠ B2 ∧ B1 ≠ L ∧ B1 ≠ D ∧ B2 ≠ L ∧ B2 ≠ D ∧ D ≠ L
  l : W.heap[L]? = some (.loop r)
  d : W.heap[D]? = some (.deferred (some []))
  b1 : W.heap[B1]? = some (.cells #[.slice A1 n1 c1] 22 (0, 0))
  b2 : W.heap[B2]? = some (.cells #[.slice A2 n2 c2] 22 (0, 0))
  o1 : OwnL W b0 A1 n1 c1 l1
  o2 : OwnL W b0 A2 n2 c2 l2
  ap : apartS A1 A2
  p1 : ∀ y ∈ l1, possB y = true
  p2 : ∀ y ∈ l2, possB y = true
def XV (L D B1 B2 : Nat) (A1 A2 : Option Addr) (i : Nat) : Prop := i = L ∨ i = D ∨ i = B1 ∨ i = B2 ∨ ob A1 = some i ∨ ob A2 = some i
theorem XV.swap {L D B1 B2 : Nat} {A1 A2 : Option Addr} {i : Nat} (h : XV L D B1 B2 A1 A2 i) : XV L D B2 B1 A2 A1 i := by
  rcases h with h | h | h | h | h | h
  · exact .inl h
  · exact .inr (.inl h)
  · exact .inr (.inr (.inr (.inl h)))
  · exact .inr (.inr (.inl h))
  · exact .inr (.inr (.inr (.inr (.inr h))))
  · exact .inr (.inr (.inr (.inr (.inl h))))
section
variable {b0 L D B1 B2 : Nat} {r : Loop} {W : World} {A1 A2 : Option Addr} {n1 c1 n2 c2 : Nat} {l1 l2 : List Lt}
theorem DVL.swap (h : DVL b0 L D B1 B2 r W A1 n1 c1 l1 A2 n2 c2 l2) : DVL b0 L D B2 B1 r W A2 n2 c2 l2 A1 n1 c1 l1 :=
  ⟨⟨h.lt.1, h.lt.2.1, h.lt.2.2.2, h.lt.2.2.1⟩, ⟨h.ne.1.symm, h.ne.2.2.2.1, h.ne.2.2.2.2.1, h.ne.2.1, h.ne.2.2.1, h.ne.2.2.2.2.2⟩, h.l, h.d, h.b2, h.b1, h.o2, h.o1, h.ap.symm, h.p2, h.p1⟩
theorem DVL.xlt (h : DVL b0 L D B1 B2 r W A1 n1 c1 l1 A2 n2 c2 l2) {i : Nat} (hi : XV L D B1 B2 A1 A2 i) : i < W.heap.size := by
  rcases hi with rfl | rfl | rfl | rfl | hi | hi
  · exact lt_blk h.l
  · exact lt_blk h.d
  · exact lt_blk h.b1
  · exact lt_blk h.b2
  · exact (h.o1.ltN i hi).2
  · exact (h.o2.ltN i hi).2
theorem DVL.keep (h : DVL b0 L D B1 B2 r W A1 n1 c1 l1 A2 n2 c2 l2) {W' : World} (hk : ∀ i, XV L D B1 B2 A1 A2 i → W'.heap[i]? = W.heap[i]?) : DVL b0 L D B1 B2 r W' A1 n1 c1 l1 A2 n2 c2 l2 :=
  ⟨h.lt, h.ne, (hk _ (.inl rfl)).trans h.l, (hk _ (.inr (.inl rfl))).trans h.d, (hk _ (.inr (.inr (.inl rfl)))).trans h.b1, (hk _ (.inr (.inr (.inr (.inl rfl))))).trans h.b2,
    h.o1.same fun b hb => hk b (.inr (.inr (.inr (.inr (.inl hb))))), h.o2.same fun b hb => hk b (.inr (.inr (.inr (.inr (.inr hb))))), h.ap, h.p1, h.p2⟩
/-- a piece was put behind the first row -/
theorem DVL.step (h : DVL b0 L D B1 B2 r W A1 n1 c1 l1 A2 n2 c2 l2) (hb0 : b0 ≤ W.heap.size) {o : Obj} {r' : Loop} {V4 : World} {A' : Option Addr} {n' c' : Nat} {l' : List Lt} (hO : OwnL V4 b0 A' n' c' l') (hG : ((W.alloc o).putObj L (.loop r')).grownBy V4 (ob A1))
    (hor : ob A' = ob A1 ∨ ∀ b, ob A' = some b → ((W.alloc o).putObj L (.loop r')).heap.size ≤ b) (hp : ∀ y ∈ l', possB y = true) :
    (V4.setCell ⟨B1, 0, none⟩ (.slice A' n' c')).heap[L]? = some (.loop r') ∧ DVL b0 L D B1 B2 r ((V4.setCell ⟨B1, 0, none⟩ (.slice A' n' c')).putObj L (.loop r)) A' n' c' l' A2 n2 c2 l2 ∧
      Ex (XV L D B1 B2 A1 A2) W ((V4.setCell ⟨B1, 0, none⟩ (.slice A' n' c')).putObj L (.loop r)) ∧ ∀ i, XV L D B1 B2 A' A2 i → XV L D B1 B2 A1 A2 i ∨ W.heap.size ≤ i := by
  obtain ⟨q1, q2, q3, q4⟩ := h.lt
  obtain ⟨m1, m2, m3, m4, m5, m6⟩ := h.ne
  have hA1 : ∀ b, ob A1 = some b → b0 ≤ b := fun b hb => (h.o1.ltN b hb).1
  have hA' : ∀ b, ob A' = some b → b0 ≤ b := fun b hb => (hO.ltN b hb).1
  have hVs : ((W.alloc o).putObj L (.loop r')).heap.size = W.heap.size + 1 := by rw [World.putObj_size, World.size_alloc]
  have x0 : Ex (fun i => i = L) W ((W.alloc o).putObj L (.loop r')) := ((Ex.refl (fun i => i = L) W).alloc o).put L _ (.inr rfl)
  have x1 : Ex (fun i => i = L ∨ ob A1 = some i) W V4 := (x0.mono (Z := fun i => i = L ∨ ob A1 = some i) (fun _ _ x => .inl x)).grown hG (fun k hk => .inr (.inr hk))
  have x2 : Ex (fun i => i = L ∨ i = B1 ∨ ob A1 = some i) W (V4.setCell ⟨B1, 0, none⟩ (.slice A' n' c')) :=
    (x1.mono (Z := fun i => i = L ∨ i = B1 ∨ ob A1 = some i) (fun _ _ x => x.elim .inl (fun x => .inr (.inr x)))).setCell ⟨B1, 0, none⟩ (.inr (.inr (.inl rfl))) _
  have x3 : Ex (fun i => i = L ∨ i = B1 ∨ ob A1 = some i) W ((V4.setCell ⟨B1, 0, none⟩ (.slice A' n' c')).putObj L (.loop r)) := x2.put L _ (.inr (.inl rfl))
  have hl0 : ((W.alloc o).putObj L (.loop r')).heap[L]? = some (.loop r') := World.putObj_heap_same (by rw [World.size_alloc]; omega)
  have hl4 : V4.heap[L]? = some (.loop r') := (hG.block L (by omega) (fun e => by have := hA1 L e.symm; omega)).trans hl0
  have hb4 : V4.heap[B1]? = some (.cells #[.slice A1 n1 c1] 22 (0, 0)) := (x1.block B1 (lt_blk h.b1) (fun x => by
    rcases x with x | x
    · exact m2 x
    · have := hA1 B1 x; omega)).trans h.b1
  have hl5 : (V4.setCell ⟨B1, 0, none⟩ (.slice A' n' c')).heap[L]? = some (.loop r') := (Below.heap_setCell _ _ _ _ (fun e => m2 e.symm)).trans hl4
  refine ⟨hl5, ⟨h.lt, h.ne, ?_, ?_, ?_, ?_, ?_, ?_, ?_, hp, h.p2⟩, x3.mono (fun i _ x => ?_), fun i hi => ?_⟩
  · exact World.putObj_heap_same (lt_blk hl5)
  · exact (x3.block D (lt_blk h.d) (fun x => by
      rcases x with x | x | x
      · exact m6 x
      · exact m3 x.symm
      · have := hA1 D x; omega)).trans h.d
  · rw [World.putObj_heap_other m2]
    exact heap_setCell_same _ _ 0 _ _ _ hb4
  · exact (x3.block B2 (lt_blk h.b2) (fun x => by
      rcases x with x | x | x
      · exact m4 x
      · exact m1 x.symm
      · have := hA1 B2 x; omega)).trans h.b2
  · refine hO.same fun b hb => ?_
    have := hA' b hb
    rw [World.putObj_heap_other (by omega), Below.heap_setCell _ _ _ _ (by show b ≠ B1; omega)]
  · exact h.o2.ex x3 (fun b hb x => by
      have := (h.o2.ltN b hb).1
      rcases x with x | x | x
      · omega
      · omega
      · exact h.ap b x hb)
  · intro b hb hb2
    rcases hor with e | e
    · exact h.ap b (e ▸ hb) hb2
    · have := e b hb
      have := (h.o2.ltN b hb2).2
      omega
  · rcases x with x | x | x
    · exact .inl x
    · exact .inr (.inr (.inl x))
    · exact .inr (.inr (.inr (.inr (.inl x))))
  · rcases hi with hi | hi | hi | hi | hi | hi
    · exact .inl (.inl hi)
    · exact .inl (.inr (.inl hi))
    · exact .inl (.inr (.inr (.inl hi)))
    · exact .inl (.inr (.inr (.inr (.inl hi))))
    · rcases hor with e | e
      · exact .inl (.inr (.inr (.inr (.inr (.inl (e ▸ hi))))))
      · right
        have := e i hi
        omega
    · exact .inl (.inr (.inr (.inr (.inr (.inr hi)))))
end

/-- the pieces of one kind -/
def sel (b : Bool) (ps : List (Lt × Bool)) : List Lt := (ps.filter fun p => p.2 == b).map Prod.fst
theorem sel_app (b : Bool) (ps qs : List (Lt × Bool)) : sel b (ps ++ qs) = sel b ps ++ sel b qs := by simp [sel]
theorem sel_hit (b : Bool) (ps : List (Lt × Bool)) (x : Lt) : putL [] (sel b (ps ++ [(x, b)])) = addL (putL [] (sel b ps)) x := by
  rw [sel_app, show sel b [(x, b)] = [x] by simp [sel], putL_snoc]
theorem sel_miss (b : Bool) (ps : List (Lt × Bool)) (x : Lt) : putL [] (sel (!b) (ps ++ [(x, b)])) = putL [] (sel (!b) ps) := by
  rw [sel_app, show sel (!b) [(x, b)] = [] by cases b <;> simp [sel], List.append_nil]
theorem putL_len (l s : List Lt) : (putL s l).length ≤ s.length + l.length := by
  induction l generalizing s with
  | nil => simp [putL]
  | cons x l ih =>
    have h1 := ih (addL s x)
    have h2 := add_len s x
    rw [putL_cons, List.length_cons]
    omega
theorem sel_len (b : Bool) (ps : List (Lt × Bool)) : (putL [] (sel b ps)).length ≤ ps.length := by
  have h1 := putL_len (sel b ps) []
  have h2 : (sel b ps).length ≤ ps.length := by rw [sel, List.length_map]; exact List.length_filter_le _ _
  simp only [List.length_nil] at h1
  omega
/-- what the consumer has made of the pieces so far -/
def JV (b0 L D B1 B2 : Nat) (r : Loop) (ps : List (Lt × Bool)) (X : Nat → Prop) (W : World) : Prop :=
  ∃ A1 n1 c1 A2 n2 c2, DVL b0 L D B1 B2 r W A1 n1 c1 (putL [] (sel true ps)) A2 n2 c2 (putL [] (sel false ps)) ∧ X = XV L D B1 B2 A1 A2
end Go.Proofs.Ytgbamgijpgjmgaa
/- divide: the pieces of a list by a count function, put into two lists. -/
namespace Go.Proofs.Ytgbamgijpgjmgaa
open Go.RowKit Go.Shelf
attribute [local go_sem] Oper.semAt_some

theorem results_cell2 {fn : Func} {t u : Tmp} {T : TypeId} (h : fn.results = #[.cell t T, .cell u T]) {tmps : Array Value} {P : Program} {w : World} {b1 b2 : Nat} {v1 v2 : Value} (h1 : tmps.getD t undef = .pointer (some ⟨b1, 0, none⟩)) (h2 : tmps.getD u undef = .pointer (some ⟨b2, 0, none⟩))
    (l1 : (loadVar T ⟨b1, 0, none⟩).run P w = .ok v1 w) (l2 : (loadVar T ⟨b2, 0, none⟩).run P w = .ok v2 w) : (results fn tmps).run P w = .ok (.tuple #[v1, v2]) w := by
  have h1' : tmps[t]?.getD undef = .pointer (some ⟨b1, 0, none⟩) := by simpa using h1
  have h2' : tmps[u]?.getD undef = .pointer (some ⟨b2, 0, none⟩) := by simpa using h2
  simp [results, h, h1', h2', l1, l2, asAddr, Result.andThen]
theorem loadVar_lots {w : World} {b : Nat} {A : Option Addr} {n c : Nat} (h : w.cell? ⟨b, 0, none⟩ = some (.slice A n c)) : (loadVar 22 ⟨b, 0, none⟩).run Try.prog w = .ok (.slice A n c) w := by
  simp [loadVar, Try.isAgg22, go_sem, h]
/-- what divide hands back -/
def RetDiv (w : World) (Y : Nat → Prop) (l1 l2 : List Lt) (e : Ending) (w' : World) : Prop :=
  ∃ A1 n1 c1 A2 n2 c2, e = .returned (.tuple #[.slice A1 n1 c1, .slice A2 n2 c2]) ∧ OwnL w' w.heap.size A1 n1 c1 l1 ∧ OwnL w' w.heap.size A2 n2 c2 l2 ∧ apartS A1 A2 ∧ (∀ y ∈ l1, possB y = true) ∧ (∀ y ∈ l2, possB y = true) ∧ Ex Y w w'

set_option maxHeartbeats 8000000 in
set_option maxRecDepth 100000 in
theorem ldivide_c {gf : FuncId} {lb : List Value} {ks : List Int} {N : Nat} {Y : Nat → Prop} {Cn : Nat → World → Prop} (hC : Counter gf lb ks N Y Cn)
    (w : World) (A : Option Addr) (n c : Nat) (l : List Lt) (hA : LotsAt w A n c l) (hAY : 0 < n → ∀ b, ob A = some b → b < N ∧ ¬ Y b) (hp : ∀ x ∈ l, possB x = true) (hks : ks.length = n) (hk : ∀ (i : Nat) (x : Lt) (k : Int), l[i]? = some x → ks[i]? = some k → 0 ≤ k ∧ k ≤ x.2.2) (hN : N ≤ w.heap.size) (hn : n ≤ 100000) (hc0 : Cn 0 w) :
    Calls Try.prog 52 #[.slice A n c, .func (.func gf) #[] lb.toArray] w (RetDiv w Y (putL [] (sel true (pcs l ks))) (putL [] (sel false (pcs l ks)))) := by
  have HC := Lib.hid hC
  have HAY := Lib.hid hAY
  have HP := Lib.hid hp
  have HK := Lib.hid (And.intro hks hk)
  have HC0 := Lib.hid hc0
  clear hC hAY hp hks hk hc0
  refine (callsIn_wide (n := 3)).1 ?_
  refine callsIn_of_wp_marks Try.func52 rfl trivial ?_ rfl
  simp only [Try.ntmps52, List.size_toArray, List.length_cons, List.length_nil, Nat.reduceAdd, Nat.reduceSub, Array.replicate_succ, Array.replicate_zero, List.push_toArray, List.append_toArray, List.nil_append, List.cons_append]
  gi_wp2_with (refine ⟨trivial, ?_⟩; gi_at_call 81; refine (callsIn_wide.2 (pieces_c _ _ A n c gf lb _ rfl rfl)).mono ?_; rintro e w' ⟨rfl, rfl⟩)
  obtain ⟨w2, hw2⟩ : ∃ w2, ((((w.alloc (.cells #[.slice none 0 0] 22)).alloc (.cells #[.slice none 0 0] 22)).alloc (.cells #[.slice A n c] 22)).alloc (.cells #[.func (.func gf) #[] lb.toArray] 65)) = w2 := ⟨_, rfl⟩
  have hEw : E w w2 := by rw [← hw2]; exact ((((E.refl w).alloc _).alloc _).alloc _).alloc _
  have hz2 : w2.heap.size = w.heap.size + 4 := by rw [← hw2]; simp
  have hbt : w2.heap[w.heap.size]? = some (.cells #[.slice none 0 0] 22 (0, 0)) := by
    rw [← hw2, Below.heap_alloc _ _ _ (by simp only [World.size_alloc]; omega), Below.heap_alloc _ _ _ (by simp only [World.size_alloc]; omega), Below.heap_alloc _ _ _ (by simp)]; exact heap_alloc_new _ _
  have hbl : w2.heap[w.heap.size + 1]? = some (.cells #[.slice none 0 0] 22 (0, 0)) := by
    rw [← hw2, Below.heap_alloc _ _ _ (by simp only [World.size_alloc]; omega), Below.heap_alloc _ _ _ (by simp)]
    have := heap_alloc_new (w.alloc (.cells #[.slice none 0 0] 22)) (.cells #[.slice none 0 0] 22)
    rw [World.size_alloc] at this; exact this
  have hba : w2.heap[w.heap.size + 1 + 1]? = some (.cells #[.slice A n c] 22 (0, 0)) := by
    rw [← hw2, Below.heap_alloc _ _ _ (by simp)]
    have := heap_alloc_new ((w.alloc (.cells #[.slice none 0 0] 22)).alloc (.cells #[.slice none 0 0] 22)) (.cells #[.slice A n c] 22)
    rw [World.size_alloc, World.size_alloc] at this; exact this
  have hbc : w2.heap[w.heap.size + 1 + 1 + 1]? = some (.cells #[.func (.func gf) #[] lb.toArray] 65 (0, 0)) := by
    rw [← hw2]
    have := heap_alloc_new (((w.alloc (.cells #[.slice none 0 0] 22)).alloc (.cells #[.slice none 0 0] 22)).alloc (.cells #[.slice A n c] 22)) (.cells #[.func (.func gf) #[] lb.toArray] 65)
    rw [World.size_alloc, World.size_alloc, World.size_alloc] at this; exact this
  rw [hw2]
  clear hw2
  refine wpIn_wide.2 (wp_rangeX (gf := 100) (lb := #[ptr (w.heap.size + 1 + 1), ptr (w.heap.size + 1 + 1 + 1)]) rfl Try.call100
    (Post := fun W' => ∃ A1 n1 c1 A2 n2 c2, W'.heap[w.heap.size]? = some (.cells #[.slice A1 n1 c1] 22 (0, 0)) ∧ W'.heap[w.heap.size + 1]? = some (.cells #[.slice A2 n2 c2] 22 (0, 0)) ∧ W'.heap[w2.heap.size]? = some (.deferred (some [])) ∧ OwnL W' (w2.heap.size + 2) A1 n1 c1 (putL [] (sel true (pcs l ks))) ∧ OwnL W' (w2.heap.size + 2) A2 n2 c2 (putL [] (sel false (pcs l ks))) ∧ apartS A1 A2 ∧ (∀ y ∈ putL [] (sel true (pcs l ks)), possB y = true) ∧ (∀ y ∈ putL [] (sel false (pcs l ks)), possB y = true) ∧ Ex Y w W')
    (PostX := fun _ => False) ?hit ?done (fun _ _ h => h.elim))
  case hit =>
    intro r hr1 hr2 hr3 hr4 hr5 hr6
    obtain ⟨W1, hW1⟩ : ∃ W1, (w2.alloc (.deferred (some []))).alloc (.loop r) = W1 := ⟨_, rfl⟩
    have hE21 : E w2 W1 := by rw [← hW1]; exact ((E.refl _).alloc _).alloc _
    have hz1 : W1.heap.size = w2.heap.size + 2 := by rw [← hW1, World.size_alloc, World.size_alloc]
    have hD1 : W1.heap[w2.heap.size]? = some (.deferred (some [])) := by rw [← hW1, Below.heap_alloc _ _ _ (by simp)]; exact heap_alloc_new _ _
    have hL1 : W1.heap[w2.heap.size + 1]? = some (.loop r) := by
      have := heap_alloc_new (w2.alloc (.deferred (some []))) (.loop r)
      rw [World.size_alloc, hW1] at this; exact this
    rw [hW1]
    clear hW1
    obtain ⟨D, hDd⟩ : ∃ D, w2.heap.size = D := ⟨_, rfl⟩
    obtain ⟨L, hLd⟩ : ∃ L, w2.heap.size + 1 = L := ⟨_, rfl⟩
    have hq1 : w.heap.size + 4 = D := by omega
    have hq2 : D + 1 = L := by omega
    rw [hLd] at hL1
    rw [hDd] at hD1
    have hJ : Eats L N (JV (L + 1) L D w.heap.size (w.heap.size + 1) r) := by
      refine ⟨?_, ?_, ?_⟩
      · rintro ps X W ⟨A1, n1, c1, A2, n2, c2, hD, rfl⟩ i hi
        refine ⟨?_, hD.xlt hi⟩
        rcases hi with rfl | rfl | rfl | rfl | hi | hi
        · omega
        · omega
        · omega
        · omega
        · have := (hD.o1.ltN i hi).1; omega
        · have := (hD.o2.ltN i hi).1; omega
      · rintro ps X W W' ⟨A1, n1, c1, A2, n2, c2, hD, rfl⟩ hk
        exact ⟨A1, n1, c1, A2, n2, c2, hD.keep hk, rfl⟩
      intro ps X W x f m hj hps hpx hwx
      cases f
      · -- false
        obtain ⟨A1, n1, c1, A2, n2, c2, hD, rfl⟩ := hj
        have hlW : W.heap.size ≠ L := by have := lt_blk hD.l; omega
        have hszL : L < W.heap.size := lt_blk hD.l
        refine (yield_round (W2 := W.alloc (.cells #[.int .i64 x.1, .int .i64 x.2.1, .int .i64 x.2.2] 39)) (a₁ := { tmps := #[.slice A n c, .func (.func gf) #[] lb.toArray, undef, undef, .pointer (some ⟨w.heap.size, 0, none⟩), .pointer (some ⟨w.heap.size + 1, 0, none⟩), .pointer (some ⟨W.heap.size, 0, none⟩), .bool false, .slice A n c, .func (.func gf) #[] lb.toArray, .func (.func 100) #[] #[ptr (w.heap.size + 1 + 1), ptr (w.heap.size + 1 + 1 + 1)], .agg #[.int .i64 x.1, .int .i64 x.2.1, .int .i64 x.2.2], .bool false, undef, undef, undef, undef, undef, undef, undef, undef, undef], defers := [] })
          hD.l (((E.refl W).alloc _).block hszL |>.trans hD.l) hr1 hr2 (by rw [hr4]; rfl) (R := fun W' => ∃ X', JV (L + 1) L D w.heap.size (w.heap.size + 1) r (ps ++ [(x, false)]) X' W' ∧ Ex (XV L D w.heap.size (w.heap.size + 1) A1 A2) W W' ∧ ∀ i, X' i → XV L D w.heap.size (w.heap.size + 1) A1 A2 i ∨ W.heap.size ≤ i) (Rx := fun _ => False) ?assign ?body).mono (fun e W' h => ?post)
        case post =>
          rcases h with h | ⟨_, h⟩
          · exact h
          · exact h.elim
        case assign =>
          intro K hK
          unfold ltV
          rw [hr3, hr4, hr5]
          gi_wp2
          exact hK
        case body =>
          obtain ⟨r', hr'⟩ : ∃ r' : Loop, { r with state := .busy } = r' := ⟨_, rfl⟩
          rw [hr', hr6]
          clear hr'
          have hD := hD.swap
          obtain ⟨V0, hV0⟩ : ∃ V0, (W.alloc (.cells #[.int .i64 x.1, .int .i64 x.2.1, .int .i64 x.2.2] 39)).putObj L (.loop r') = V0 := ⟨_, rfl⟩
          have hX0 : Ex (fun i => i = L) W V0 := by rw [← hV0]; exact ((Ex.refl (fun i => i = L) W).alloc _).put L _ (.inr rfl)
          have hz0 : V0.heap.size = W.heap.size + 1 := by rw [← hV0, World.putObj_size, World.size_alloc]
          have hbx : V0.heap[W.heap.size]? = some (.cells #[.int .i64 x.1, .int .i64 x.2.1, .int .i64 x.2.2] 39 (0, 0)) := by
            rw [← hV0, World.putObj_heap_other (by have := lt_blk hD.l; omega)]; exact heap_alloc_new _ _
          have hb1 : V0.heap[w.heap.size + 1]? = _ := (hX0.block _ (lt_blk hD.b1) hD.ne.2.1).trans hD.b1
          have hO1 : OwnL V0 (L + 1) A2 n2 c2 (putL [] (sel false ps)) := hD.o1.ex hX0 (fun b hb e => by have := (hD.o1.ltN b hb).1; omega)
          have HP := Lib.hid (put_c x A2 n2 c2 (L + 1) _ V0 hO1 hD.p1 hpx hwx (by omega) (by have := sel_len false ps; have := hD.o1.1; omega))
          have HSt := Lib.hid (fun (V4 : World) (A' : Option Addr) (n' c' : Nat) (hO : OwnL V4 (L + 1) A' n' c' (addL (putL [] (sel false ps)) x)) (hG : V0.grownBy V4 (ob A2)) (hor : ob A' = ob A2 ∨ ∀ b, ob A' = some b → V0.heap.size ≤ b) =>
            hD.step (by omega) (o := .cells #[.int .i64 x.1, .int .i64 x.2.1, .int .i64 x.2.2] 39) (r' := r') (V4 := V4) hO (by rw [hV0]; exact hG) (by rw [hV0]; exact hor) (poss_add hD.p1 hpx))
          have hltB := lt_blk hb1
          have hA1b : ∀ k, ob A2 = some k → L + 1 ≤ k := fun k hk => (hD.o1.ltN k hk).1
          have hLB1 := hD.lt.2.2.1
          have cb := (cell_one hb1).1
          have cx := And.intro (cell_of_row _ _ 0 _ _ _ hbx) (And.intro (cell_of_row _ _ 1 _ _ _ hbx) (cell_of_row _ _ 2 _ _ _ hbx))
          simp only [List.getElem?_toArray, List.getElem?_cons_zero, List.getElem?_cons_succ] at cx
          obtain ⟨cx0, cx1, cx2⟩ := cx
          have HB1 := Lib.hid hb1
          rw [hV0]
          clear hV0 hX0 hbx hD hO1 hb1
          unfold ltV at HP
          gi_wp2_with (refine ⟨trivial, (fun h => absurd h (by decide)), ?_⟩; gi_at_call 58; refine (CallsIn.inRound L (callsIn_wide.2 HP.out)).mono ?_; rintro e V4 ⟨A', n', c', rfl, hO4, hG4, hor4⟩; have hb4 : V4.heap[w.heap.size + 1]? = _ := (hG4.block (w.heap.size + 1) hltB (fun e => by have := hA1b (w.heap.size + 1) e.symm; omega)).trans HB1.out; have c4 := (cell_one hb4).1; have f4 := (cell_one hb4).2)
          obtain ⟨g1, g2, g3, g4⟩ := HSt.out V4 A' n' c' hO4 hG4 hor4
          exact ⟨g1, _, ⟨A1, n1, c1, A', n', c', by rw [sel_hit false ps x, show true = !false from rfl, sel_miss false ps x]; exact g2.swap, rfl⟩, g3.mono (fun _ _ h => h.swap), fun i hi => (g4 i hi.swap).imp XV.swap id⟩
      · -- true
        obtain ⟨A1, n1, c1, A2, n2, c2, hD, rfl⟩ := hj
        have hlW : W.heap.size ≠ L := by have := lt_blk hD.l; omega
        have hszL : L < W.heap.size := lt_blk hD.l
        refine (yield_round (W2 := W.alloc (.cells #[.int .i64 x.1, .int .i64 x.2.1, .int .i64 x.2.2] 39)) (a₁ := { tmps := #[.slice A n c, .func (.func gf) #[] lb.toArray, undef, undef, .pointer (some ⟨w.heap.size, 0, none⟩), .pointer (some ⟨w.heap.size + 1, 0, none⟩), .pointer (some ⟨W.heap.size, 0, none⟩), .bool true, .slice A n c, .func (.func gf) #[] lb.toArray, .func (.func 100) #[] #[ptr (w.heap.size + 1 + 1), ptr (w.heap.size + 1 + 1 + 1)], .agg #[.int .i64 x.1, .int .i64 x.2.1, .int .i64 x.2.2], .bool true, undef, undef, undef, undef, undef, undef, undef, undef, undef], defers := [] })
          hD.l (((E.refl W).alloc _).block hszL |>.trans hD.l) hr1 hr2 (by rw [hr4]; rfl) (R := fun W' => ∃ X', JV (L + 1) L D w.heap.size (w.heap.size + 1) r (ps ++ [(x, true)]) X' W' ∧ Ex (XV L D w.heap.size (w.heap.size + 1) A1 A2) W W' ∧ ∀ i, X' i → XV L D w.heap.size (w.heap.size + 1) A1 A2 i ∨ W.heap.size ≤ i) (Rx := fun _ => False) ?assign ?body).mono (fun e W' h => ?post)
        case post =>
          rcases h with h | ⟨_, h⟩
          · exact h
          · exact h.elim
        case assign =>
          intro K hK
          unfold ltV
          rw [hr3, hr4, hr5]
          gi_wp2
          exact hK
        case body =>
          obtain ⟨r', hr'⟩ : ∃ r' : Loop, { r with state := .busy } = r' := ⟨_, rfl⟩
          rw [hr', hr6]
          clear hr'
          obtain ⟨V0, hV0⟩ : ∃ V0, (W.alloc (.cells #[.int .i64 x.1, .int .i64 x.2.1, .int .i64 x.2.2] 39)).putObj L (.loop r') = V0 := ⟨_, rfl⟩
          have hX0 : Ex (fun i => i = L) W V0 := by rw [← hV0]; exact ((Ex.refl (fun i => i = L) W).alloc _).put L _ (.inr rfl)
          have hz0 : V0.heap.size = W.heap.size + 1 := by rw [← hV0, World.putObj_size, World.size_alloc]
          have hbx : V0.heap[W.heap.size]? = some (.cells #[.int .i64 x.1, .int .i64 x.2.1, .int .i64 x.2.2] 39 (0, 0)) := by
            rw [← hV0, World.putObj_heap_other (by have := lt_blk hD.l; omega)]; exact heap_alloc_new _ _
          have hb1 : V0.heap[w.heap.size]? = _ := (hX0.block _ (lt_blk hD.b1) hD.ne.2.1).trans hD.b1
          have hO1 : OwnL V0 (L + 1) A1 n1 c1 (putL [] (sel true ps)) := hD.o1.ex hX0 (fun b hb e => by have := (hD.o1.ltN b hb).1; omega)
          have HP := Lib.hid (put_c x A1 n1 c1 (L + 1) _ V0 hO1 hD.p1 hpx hwx (by omega) (by have := sel_len true ps; have := hD.o1.1; omega))
          have HSt := Lib.hid (fun (V4 : World) (A' : Option Addr) (n' c' : Nat) (hO : OwnL V4 (L + 1) A' n' c' (addL (putL [] (sel true ps)) x)) (hG : V0.grownBy V4 (ob A1)) (hor : ob A' = ob A1 ∨ ∀ b, ob A' = some b → V0.heap.size ≤ b) =>
            hD.step (by omega) (o := .cells #[.int .i64 x.1, .int .i64 x.2.1, .int .i64 x.2.2] 39) (r' := r') (V4 := V4) hO (by rw [hV0]; exact hG) (by rw [hV0]; exact hor) (poss_add hD.p1 hpx))
          have hltB := lt_blk hb1
          have hA1b : ∀ k, ob A1 = some k → L + 1 ≤ k := fun k hk => (hD.o1.ltN k hk).1
          have hLB1 := hD.lt.2.2.1
          have cb := (cell_one hb1).1
          have cx := And.intro (cell_of_row _ _ 0 _ _ _ hbx) (And.intro (cell_of_row _ _ 1 _ _ _ hbx) (cell_of_row _ _ 2 _ _ _ hbx))
          simp only [List.getElem?_toArray, List.getElem?_cons_zero, List.getElem?_cons_succ] at cx
          obtain ⟨cx0, cx1, cx2⟩ := cx
          have HB1 := Lib.hid hb1
          rw [hV0]
          clear hV0 hX0 hbx hD hO1 hb1
          unfold ltV at HP
          gi_wp2_with (refine ⟨trivial, (fun h => absurd h (by decide)), ?_⟩; gi_at_call 58; refine (CallsIn.inRound L (callsIn_wide.2 HP.out)).mono ?_; rintro e V4 ⟨A', n', c', rfl, hO4, hG4, hor4⟩; have hb4 : V4.heap[w.heap.size]? = _ := (hG4.block w.heap.size hltB (fun e => by have := hA1b w.heap.size e.symm; omega)).trans HB1.out; have c4 := (cell_one hb4).1; have f4 := (cell_one hb4).2)
          obtain ⟨g1, g2, g3, g4⟩ := HSt.out V4 A' n' c' hO4 hG4 hor4
          exact ⟨g1, _, ⟨A', n', c', A2, n2, c2, by rw [sel_hit true ps x, show false = !true from rfl, sel_miss true ps x]; exact g2, rfl⟩, g3, g4⟩
    have h0 : JV (L + 1) L D w.heap.size (w.heap.size + 1) r [] (XV L D w.heap.size (w.heap.size + 1) none none) W1 :=
      ⟨none, 0, 0, none, 0, 0, ⟨⟨by omega, by omega, by omega, by omega⟩, ⟨by omega, by omega, by omega, by omega, by omega, by omega⟩, hL1, hD1, (hE21.block (by omega)).trans hbt, (hE21.block (by omega)).trans hbl, OwnL.nil _ _, OwnL.nil _ _, apart_none _, by simp [sel, putL], by simp [sel, putL]⟩, rfl⟩
    have hxv : ∀ i, XV L D w.heap.size (w.heap.size + 1) none none i → i = L ∨ i = D ∨ i = w.heap.size ∨ i = w.heap.size + 1 := fun i hi => by
      rcases hi with h | h | h | h | h | h
      · exact .inl h
      · exact .inr (.inl h)
      · exact .inr (.inr (.inl h))
      · exact .inr (.inr (.inr h))
      · cases h
      · cases h
    have hC1 := pieces1_c HC.out hJ W1 (w.heap.size + 1 + 1) (w.heap.size + 1 + 1 + 1) A n c l ((hA.e hEw).e hE21) HAY.out HP.out HK.out.1 HK.out.2 ((hE21.block (by omega)).trans hba) ((hE21.block (by omega)).trans hbc) (by omega) (by omega) hn _ h0
      (fun h => by rcases hxv _ h with h | h | h | h <;> omega) (fun h => by rcases hxv _ h with h | h | h | h <;> omega) (HC.out.keep 0 w W1 HC0.out (fun b hb => by rw [hE21.block (by omega), hEw.block (by omega)]))
    rw [hLd]
    refine (show Calls Try.prog 100 (#[.func (.yield L) #[] #[]] ++ #[ptr (w.heap.size + 1 + 1), ptr (w.heap.size + 1 + 1 + 1)]) W1 _ from hC1).mono ?_
    rintro e W' ⟨hv, X', ⟨A1, n1, c1, A2, n2, c2, hD, rfl⟩, hcn, hX, _⟩
    refine ⟨hv, .inl ⟨hD.l, A1, n1, c1, A2, n2, c2, hD.b1, hD.b2, by rw [hDd]; exact hD.d, hD.o1.rebase (by omega), hD.o2.rebase (by omega), hD.ap, hD.p1, hD.p2, ?_⟩⟩
    refine (Ex.of_e (X := fun _ => False) (hEw.trans hE21)).trans hX (fun _ _ x => x.elim) (fun i hi x => ?_)
    rcases x with x | x
    · rcases hxv i x with h | h | h | h <;> omega
    · exact x
  case done =>
    rintro W' o ⟨A1, n1, c1, A2, n2, c2, hb1, hb2, hd, hO1, hO2, hap, hp1, hp2, hE⟩ hlt
    have vX : Ex (fun i => i = w2.heap.size + 1) W' (W'.putObj (w2.heap.size + 1) o) := (Ex.refl (fun i => i = w2.heap.size + 1) W').put _ _ (.inr rfl)
    have v1 : (W'.putObj (w2.heap.size + 1) o).heap[w.heap.size]? = _ := (World.putObj_heap_other (by omega)).trans hb1
    have v2 : (W'.putObj (w2.heap.size + 1) o).heap[w.heap.size + 1]? = _ := (World.putObj_heap_other (by omega)).trans hb2
    have vD : (W'.putObj (w2.heap.size + 1) o).heap[w2.heap.size]? = _ := (World.putObj_heap_other (by omega)).trans hd
    have vO1 : OwnL (W'.putObj (w2.heap.size + 1) o) (w2.heap.size + 2) A1 n1 c1 _ := hO1.ex vX (fun b hb e => by have := (hO1.ltN b hb).1; omega)
    have vO2 : OwnL (W'.putObj (w2.heap.size + 1) o) (w2.heap.size + 2) A2 n2 c2 _ := hO2.ex vX (fun b hb e => by have := (hO2.ltN b hb).1; omega)
    have vE : Ex Y w (W'.putObj (w2.heap.size + 1) o) := hE.put _ _ (.inl (by omega))
    obtain ⟨V, hV⟩ : ∃ V, W'.putObj (w2.heap.size + 1) o = V := ⟨_, rfl⟩
    obtain ⟨D, hDd⟩ : ∃ D, w2.heap.size = D := ⟨_, rfl⟩
    have hDg : w.heap.size + 1 < D := by omega
    rw [hV] at v1 v2 vD vO1 vO2 vE ⊢
    rw [hDd] at vD vO1 vO2 ⊢
    obtain ⟨q1, f1⟩ := cell_one v1
    obtain ⟨q2, f2⟩ := cell_one v2
    clear hV hDd hlt hz2 hbt hbl hba hbc hb1 hb2 hd hO1 hO2 hE vX
    gi_wp2
    gi_region
    all_goals gi_wp2
    obtain ⟨V5, hV5⟩ : ∃ V5, ((V.setCell ⟨w.heap.size, 0, none⟩ (.slice A1 n1 c1)).setCell ⟨w.heap.size + 1, 0, none⟩ (.slice A2 n2 c2)).drew = V5 := ⟨_, rfl⟩
    have x5 : Ex (fun i => i = w.heap.size ∨ i = w.heap.size + 1) V V5 := by
      rw [← hV5]
      exact (((Ex.refl (fun i => i = w.heap.size ∨ i = w.heap.size + 1) V).setCell ⟨w.heap.size, 0, none⟩ (.inr (.inl rfl)) _).setCell ⟨w.heap.size + 1, 0, none⟩ (.inr (.inr rfl)) _).drew
    have s1 : V5.heap[w.heap.size]? = some (.cells #[.slice A1 n1 c1] 22 (0, 0)) := by
      rw [← hV5]
      exact (Below.heap_setCell _ _ _ _ (by show w.heap.size ≠ w.heap.size + 1; omega)).trans (heap_setCell_same _ _ 0 _ _ _ v1)
    have s2 : V5.heap[w.heap.size + 1]? = some (.cells #[.slice A2 n2 c2] 22 (0, 0)) := by
      rw [← hV5]
      exact heap_setCell_same _ _ 0 _ _ (.slice A2 n2 c2) ((Below.heap_setCell _ _ _ _ (by show w.heap.size + 1 ≠ w.heap.size; omega)).trans v2)
    have sD : V5.heap[D]? = some (.deferred (some [])) := (x5.block D (lt_blk vD) (by omega)).trans vD
    rw [hV5]
    clear hV5
    refine ⟨by simp, .inl ⟨_, _, rfl, run_takeDeferred sD, ?_⟩⟩
    have x6 : Ex (fun i => i = w.heap.size ∨ i = w.heap.size + 1 ∨ i = D) V (V5.putObj D (.deferred none)) := (x5.mono (Z := fun i => i = w.heap.size ∨ i = w.heap.size + 1 ∨ i = D) (fun _ _ x => x.elim .inl (fun x => .inr (.inl x)))).put _ _ (.inr (.inr (.inr rfl)))
    have r1 := (cell_one (show (V5.putObj D (.deferred none)).heap[w.heap.size]? = _ from (World.putObj_heap_other (by omega)).trans s1)).1
    have r2 := (cell_one (show (V5.putObj D (.deferred none)).heap[w.heap.size + 1]? = _ from (World.putObj_heap_other (by omega)).trans s2)).1
    refine ⟨_, results_cell2 rfl rfl rfl (loadVar_lots r1) (loadVar_lots r2), A1, n1, c1, A2, n2, c2, rfl, (vO1.ex x6 (fun b hb e => by have := (vO1.ltN b hb).1; omega)).rebase (by omega), (vO2.ex x6 (fun b hb e => by have := (vO2.ltN b hb).1; omega)).rebase (by omega), hap, hp1, hp2, ?_⟩
    exact vE.trans x6 (fun _ _ x => x) (fun i hi x => by omega)
end Go.Proofs.Ytgbamgijpgjmgaa
/- Slice. -/
namespace Go.Proofs.Ytgbamgijpgjmgaa
open Go.RowKit Go.Shelf

theorem sel_cons_t (x y : Lt) (ps : List (Lt × Bool)) : sel true ((x, true) :: (y, false) :: ps) = x :: sel true ps := by simp [sel]
theorem sel_cons_f (x y : Lt) (ps : List (Lt × Bool)) : sel false ((x, true) :: (y, false) :: ps) = y :: sel false ps := by simp [sel]
theorem firstK_range {n : Int} {l : List Lt} (h0 : 0 ≤ n) (hl : ∀ x ∈ l, 1 ≤ x.2.2) : ∀ (i : Nat) (x : Lt) (k : Int), l[i]? = some x → (firstK n l)[i]? = some k → 0 ≤ k ∧ k ≤ x.2.2 := fun i x k hx hk => by
  obtain ⟨h1, _⟩ := firstK_get (n := n) hx
  rw [hk] at h1
  injection h1 with h1
  have := leftK_range h0 hl i
  have := hl x (List.mem_of_getElem? hx)
  omega
theorem pcs_nonneg {l : List Lt} {ks : List Int} (b : Bool) (hk : ∀ (i : Nat) (x : Lt) (k : Int), l[i]? = some x → ks[i]? = some k → 0 ≤ k ∧ k ≤ x.2.2) : ∀ y ∈ sel b (pcs l ks), 0 ≤ y.2.2 := by
  induction l generalizing ks with
  | nil => simp [pcs, sel]
  | cons x l ih =>
    cases ks with
    | nil => simp [pcs, sel]
    | cons k ks =>
      have h0 := hk 0 x k (by simp) (by simp)
      have := ih (ks := ks) (fun i x k hx hk' => hk (i + 1) x k (by simpa using hx) (by simpa using hk'))
      intro y hy
      rw [pcs] at hy
      cases b
      · rw [sel_cons_f] at hy
        rcases List.mem_cons.1 hy with rfl | hy
        · show 0 ≤ x.2.2 - k; omega
        · exact this y hy
      · rw [sel_cons_t] at hy
        rcases List.mem_cons.1 hy with rfl | hy
        · exact h0.1
        · exact this y hy
theorem pcs_first {l : List Lt} {n : Int} (h0 : 0 ≤ n) (hl : ∀ x ∈ l, 1 ≤ x.2.2) : U (sel true (pcs l (firstK n l))) = (U l).take n.toNat ∧ U (sel false (pcs l (firstK n l))) = (U l).drop n.toNat := by
  induction l generalizing n with
  | nil => simp [pcs, sel, U_nil]
  | cons x l ih =>
    have hx := hl x List.mem_cons_self
    obtain ⟨i1, i2⟩ := ih (n := n - min n x.2.2) (by omega) (fun y hy => hl y (List.mem_cons_of_mem _ hy))
    rw [firstK, pcs, sel_cons_t, sel_cons_f, U_cons, U_cons, U_cons, i1, i2]
    have hc := ul_cut (f := x.1) (a := x.2.1) (n := x.2.2) (k := min n x.2.2) (by omega) (by omega)
    have hc : ul x = ul (x.1, x.2.1, min n x.2.2) ++ ul (x.1, x.2.1 + min n x.2.2, x.2.2 - min n x.2.2) := hc
    have e1 := ul_len (x.1, x.2.1, min n x.2.2)
    have e2 := ul_len x
    simp only at e1
    by_cases hn : n ≤ x.2.2
    · have hm : min n x.2.2 = n := by omega
      rw [hm] at hc e1 ⊢
      rw [show (n - n).toNat = 0 by omega, List.take_zero, List.append_nil, List.drop_zero, hc, List.append_assoc, List.take_append_of_le_length (by omega), List.take_of_length_le (by omega), List.drop_append_of_le_length (by omega), show (ul (x.1, x.2.1, n)).drop n.toNat = [] from List.drop_eq_nil_of_le (by omega), List.nil_append]
      exact ⟨rfl, rfl⟩
    · have hm : min n x.2.2 = x.2.2 := by omega
      rw [hm] at hc e1 ⊢
      have e3 : ul (x.1, x.2.1 + x.2.2, x.2.2 - x.2.2) = [] := ul_none (by simp only; omega)
      rw [e3, List.append_nil] at hc
      rw [e3, ← hc, List.nil_append, List.take_append, List.drop_append, show (ul x).take n.toNat = ul x from List.take_of_length_le (by omega), show (ul x).drop n.toNat = [] from List.drop_eq_nil_of_le (by omega), List.nil_append]
      have e4 : (n - x.2.2).toNat = n.toNat - (ul x).length := by omega
      rw [e4]
      exact ⟨rfl, rfl⟩
theorem put_first {l : List Lt} {n : Int} (h0 : 0 ≤ n) (hl : ∀ x ∈ l, 1 ≤ x.2.2) : putL [] (sel true (pcs l (firstK n l))) = glue ((U l).take n.toNat) ∧ putL [] (sel false (pcs l (firstK n l))) = glue ((U l).drop n.toNat) := by
  obtain ⟨h1, h2⟩ := pcs_first h0 hl
  have hk := firstK_range h0 hl
  exact ⟨by rw [putN_eq (pcs_nonneg true hk), h1], by rw [putN_eq (pcs_nonneg false hk), h2]⟩

def sliceS (l : List Lt) (at_ n : Int) : List Lt × Int :=
  if validB l = false ∨ at_ < 0 ∨ n < 0 then ([], 1) else if totL l < at_ ∨ totL l - at_ < n then ([], 5) else (glue (((U l).drop at_.toNat).take n.toNat), 0)
def RetLE (w : World) (r : List Lt × Int) (e : Ending) (w' : World) : Prop := ∃ A n c, e = .returned (.tuple #[.slice A n c, .int .i64 r.2]) ∧ OwnL w' w.heap.size A n c r.1 ∧ E w w'
theorem RetLE.mk_ {w w' : World} {r : List Lt × Int} {A : Option Addr} {n c : Nat} {l : List Lt} {e : Int} (hr : r = (l, e)) (hO : OwnL w' w.heap.size A n c l) (hE : E w w') : RetLE w r (.returned (.tuple #[.slice A n c, .int .i64 e])) w' := ⟨A, n, c, by rw [hr], by rw [hr]; exact hO, hE⟩
theorem RetLE.none_ {w w' : World} {r : List Lt × Int} {e : Int} (hr : r = ([], e)) (hE : E w w') : RetLE w r (.returned (.tuple #[.slice none 0 0, .int .i64 e])) w' := RetLE.mk_ hr (OwnL.nil _ _) hE
/-- divide by the first n units, firstUnits's closure at hand -/
theorem divide_first (n : Int) (A : Option Addr) (len c : Nat) (l : List Lt) (w : World) (bl bn : Nat) (h0 : 0 ≤ n) (h1 : n ≤ 1152921504606846976) (hl : ∀ x ∈ l, possB x = true) (hA : 0 < len → ∀ b, ob A = some b → b < bl) (hne : bl < bn) (hb : bn < w.heap.size) (hlen : len ≤ 100000) (hS : FuSt n A len c l bl bn 0 w) :
    Calls Try.prog 52 #[.slice A len c, .func (.func 74) #[] [ptr bn, ptr bl].toArray] w (RetDiv w (fun b => b = bn) (glue ((U l).take n.toNat)) (glue ((U l).drop n.toNat))) := by
  have hl1 : ∀ x ∈ l, 1 ≤ x.2.2 := fun x hx => (possB_iff.1 (hl x hx)).2.2.2.1
  obtain ⟨e1, e2⟩ := put_first h0 hl1
  rw [← e1, ← e2]
  exact ldivide_c (firstUnits_counter n A len c l bl bn h0 h1 hl hA hne) w A len c l hS.2.2 (fun hl0 b hb => ⟨by have := hA hl0 b hb; omega, by have := hA hl0 b hb; omega⟩) hl (by rw [firstK_len, hS.2.2.len]) (firstK_range h0 hl1) (by omega) hlen hS

theorem glue_poss {us : List Un} (h : ∀ u ∈ us, 0 ≤ u.1 ∧ 0 ≤ u.2 ∧ u.2 < 1099511627776) : ∀ x ∈ glue us, possB x = true := fun x hx => by
  have hg := (glue_glued us).mem x hx
  have hu : ∀ u ∈ ul x, u ∈ us := fun u hu => by rw [← U_glue us]; exact mem_U.2 ⟨x, hx, hu⟩
  have h1 := h (x.1, x.2.1) (hu _ (mem_ul.2 ⟨rfl, by simp only; omega, by simp only; omega⟩))
  have h2 := h (x.1, x.2.1 + x.2.2 - 1) (hu _ (mem_ul.2 ⟨rfl, by simp only; omega, by simp only; omega⟩))
  simp only at h1 h2
  rw [possB_iff]
  omega
theorem U_range {l : List Lt} (hl : ∀ x ∈ l, possB x = true) : ∀ u ∈ U l, 0 ≤ u.1 ∧ 0 ≤ u.2 ∧ u.2 < 1099511627776 := fun u hu => by
  obtain ⟨x, hx, hu⟩ := mem_U.1 hu
  have h1 := possB_iff.1 (hl x hx)
  have h2 := mem_ul.1 hu
  omega
/-- what is left behind the first units has no more lots than there were -/
theorem glue_drop_len (l : List Lt) (k : Nat) (hl : ∀ x ∈ l, 1 ≤ x.2.2) : (glue ((U l).drop k)).length ≤ l.length := by
  induction l generalizing k with
  | nil => rw [U_nil, List.drop_nil]; exact Nat.zero_le _
  | cons x l ih =>
    have hx := hl x List.mem_cons_self
    have ih' := fun k => ih k (fun y hy => hl y (List.mem_cons_of_mem _ hy))
    have h2 := ul_len x
    rw [U_cons, List.drop_append, List.length_cons]
    have h3 := ih' (k - (ul x).length)
    by_cases hk : k ≤ (ul x).length
    · have hc := ul_cut (f := x.1) (a := x.2.1) (n := x.2.2) (k := (k : Int)) (by omega) (by omega)
      have hc : ul x = ul (x.1, x.2.1, (k : Int)) ++ ul (x.1, x.2.1 + k, x.2.2 - k) := hc
      have e1 := ul_len (x.1, x.2.1, (k : Int))
      simp only at e1
      have hd : (ul x).drop k = ul (x.1, x.2.1 + k, x.2.2 - k) := by
        rw [hc, List.drop_append_of_le_length (by omega), List.drop_eq_nil_of_le (by omega), List.nil_append]
      have h4 := glue_app_len ((ul x).drop k) ((U l).drop (k - (ul x).length))
      have h5 := glue_ul_len (x.1, x.2.1 + (k : Int), x.2.2 - k)
      rw [← hd] at h5
      omega
    · rw [List.drop_eq_nil_of_le (by omega), List.nil_append]
      omega
set_option maxHeartbeats 8000000 in
set_option maxRecDepth 100000 in
theorem slice_c (at_ m : Int) (A : Option Addr) (n c : Nat) (l : List Lt) (w : World) (h : LotsAt w A n c l) (ha1 : -9223372036854775808 ≤ at_) (ha2 : at_ ≤ 9223372036854775807) (hm1 : -9223372036854775808 ≤ m) (hm2 : m ≤ 9223372036854775807) :
    Calls Try.prog 20 #[.slice A n c, .int .i64 at_, .int .i64 m] w (RetLE w (sliceS l at_ m)) := by
  have HV := Lib.hid (valid_c A n c l w h)
  cases hv : validB l
  · rw [hv] at HV
    have HF := Lib.hid (show sliceS l at_ m = ([], 1) by rw [sliceS, if_pos (.inl hv)])
    clear hv
    go_enter Try.func20, Try.ntmps20
    go_wp2_with fail
    refine HV.out.mono ?_
    rintro e w2 ⟨rfl, hE2⟩
    go_wp2_with fail
    go_ret2
    exact RetLE.none_ HF.out hE2
  · rw [hv] at HV
    by_cases hab : at_ < 0 ∨ m < 0
    · have HF := Lib.hid (show sliceS l at_ m = ([], 1) by rw [sliceS, if_pos (.inr hab)])
      by_cases ha : at_ < 0
      · have da : decide (at_ < 0) = true := by simpa using ha
        clear hv hab
        go_enter Try.func20, Try.ntmps20
        go_wp2_with fail
        refine HV.out.mono ?_
        rintro e w2 ⟨rfl, hE2⟩
        go_wp2_with fail
        go_ret2
        exact RetLE.none_ HF.out hE2
      · have hm0 : m < 0 := by omega
        have da : decide (at_ < 0) = false := by simpa using ha
        have dm : decide (m < 0) = true := by simpa using hm0
        clear hv hab
        go_enter Try.func20, Try.ntmps20
        go_wp2_with fail
        refine HV.out.mono ?_
        rintro e w2 ⟨rfl, hE2⟩
        go_wp2_with fail
        go_ret2
        exact RetLE.none_ HF.out hE2
    · have ha0 : ¬ at_ < 0 := fun hh => hab (.inl hh)
      have hm0 : ¬ m < 0 := fun hh => hab (.inr hh)
      have da : decide (at_ < 0) = false := by simpa using ha0
      have dm : decide (m < 0) = false := by simpa using hm0
      obtain ⟨v1, v2⟩ := validB_iff.1 hv
      have hT := totL_le v2
      have htot : totalS l = totL l := by rw [totalS, hv]; rfl
      have HTot := Lib.hid (fun W (hE : E w W) => total_c A n c l W (h.e hE))
      rw [htot] at HTot
      have hT1 : totL l ≤ 4503599627370496 := by omega
      have hT0 := hT.1
      have HNo : totL l < at_ ∨ totL l - at_ < m → sliceS l at_ m = ([], 5) := fun hh => by
        rw [sliceS, if_neg (by rw [hv]; rintro (h1 | h1 | h1) <;> first | exact ha0 h1 | exact hm0 h1 | cases h1), if_pos hh]
      have HYes : ¬ (totL l < at_ ∨ totL l - at_ < m) → sliceS l at_ m = (glue (((U l).drop at_.toNat).take m.toNat), 0) := fun hh => by
        rw [sliceS, if_neg (by rw [hv]; rintro (h1 | h1 | h1) <;> first | exact ha0 h1 | exact hm0 h1 | cases h1), if_neg hh]
      have HL := Lib.hid (And.intro h.len v1)
      have HP := Lib.hid v2
      generalize totL l = T at *
      clear hT htot v1 v2 hv hab
      have hwr : IntKind.i64.wrap (T - at_) = T - at_ := by rw [IntKind.wrap_i64]; omega
      by_cases hTa : T < at_
      · have HF := Lib.hid (HNo (.inl hTa))
        clear HNo HYes
        have dT : decide (T < at_) = true := by simpa using hTa
        go_enter Try.func20, Try.ntmps20
        go_wp2_with fail
        refine HV.out.mono ?_
        rintro e w2 ⟨rfl, hE2⟩
        go_wp2_with fail
        refine (HTot.out _ hE2).mono ?_
        rintro e w3 ⟨rfl, hE3⟩
        go_wp2_with fail
        go_ret2
        exact RetLE.none_ HF.out (hE2.trans hE3)
      · have dT : decide (T < at_) = false := by simpa using hTa
        by_cases hTm : T - at_ < m
        · have HF := Lib.hid (HNo (.inr hTm))
          clear HNo HYes
          have dm2 : decide (T - at_ < m) = true := by simpa using hTm
          go_enter Try.func20, Try.ntmps20
          go_wp2_with fail
          refine HV.out.mono ?_
          rintro e w2 ⟨rfl, hE2⟩
          go_wp2_with fail
          refine (HTot.out _ hE2).mono ?_
          rintro e w3 ⟨rfl, hE3⟩
          go_wp2_with fail
          go_ret2
          exact RetLE.none_ HF.out (hE2.trans hE3)
        · have HF := Lib.hid (HYes (fun hh => by rcases hh with hh | hh; exact hTa hh; exact hTm hh))
          clear HNo HYes
          have dm2 : decide (T - at_ < m) = false := by simpa using hTm
          have hn : n ≤ 4096 := by have := HL.out.1; have := HL.out.2; omega
          have hA0 := Lib.hid h.obl
          have hsm : at_ ≤ 1152921504606846976 := by omega
          have hsm2 : m ≤ 1152921504606846976 := by omega
          have ha00 : 0 ≤ at_ := by omega
          have hm00 : 0 ≤ m := by omega
          have HB := Lib.hid (And.intro (And.intro ha00 hsm) (And.intro hm00 hsm2))
          clear ha00 hm00 hsm hsm2 ha1 ha2 hm1 hm2 hT0 hT1 hTa hTm ha0 hm0
          go_enter Try.func20, Try.ntmps20
          go_wp2_with fail
          refine HV.out.mono ?_
          rintro e w2 ⟨rfl, hE2⟩
          go_wp2_with fail
          refine (HTot.out _ hE2).mono ?_
          rintro e w3 ⟨rfl, hE3⟩
          have hE23 := hE2.trans hE3
          go_wp2_with fail
          refine (firstUnits_c at_ A n c l w3 (h.e hE23)).mono ?_
          rintro e w4 ⟨rfl, hS4, hE4, hz4⟩
          go_wp2_with fail
          refine (divide_first at_ A n c l w4 w3.heap.size (w3.heap.size + 1) HB.out.1.1 HB.out.1.2 HP.out (fun h0 b hb => Nat.lt_of_lt_of_le (hA0.out h0 b hb) hE23.le) (by omega) (by omega) (by omega) hS4).mono ?_
          rintro e w5 ⟨A1, n1, c1, A2, n2, c2, rfl, hO1, hO2, _, _, hp2, hX5⟩
          have hw5 : w4.heap.size ≤ w5.heap.size := hX5.size
          have hw4 := hE4.le
          have h2l : n2 ≤ 100000 := by
            have h1 := hO2.1
            have h2 := HL.out.2
            have h3 := glue_drop_len l at_.toNat (fun x hx => (possB_iff.1 (HP.out x hx)).2.2.2.1)
            omega
          have hO2r := hO2.reads
          have HO2 := Lib.hid hO2
          have hXw : Ex (fun b => b = w3.heap.size + 1) w3 w5 := (Ex.of_e (X := fun _ => False) hE4).trans hX5 (fun _ _ x => x.elim) (fun _ _ x => x)
          have HE5 := Lib.hid (show E w w5 from hE23.trans (hXw.e (fun i hi => by omega)))
          clear hO1 hO2 hX5 hS4 hE4 hXw
          go_wp2_with fail
          refine (firstUnits_c m A2 n2 c2 _ w5 hO2r).mono ?_
          rintro e w6 ⟨rfl, hS6, hE6, hz6⟩
          go_wp2_with fail
          refine (divide_first m A2 n2 c2 _ w6 w5.heap.size (w5.heap.size + 1) HB.out.2.1 HB.out.2.2 hp2 hO2r.obl (by omega) (by omega) h2l hS6).mono ?_
          rintro e w7 ⟨A3, n3, c3, A4, n4, c4, rfl, hO3, hO4, _, _, _, hX7⟩
          have hX57 : Ex (fun b => b = w5.heap.size + 1) w5 w7 := (Ex.of_e (X := fun _ => False) hE6).trans hX7 (fun _ _ x => x.elim) (fun _ _ x => x)
          have HE7 := Lib.hid (HE5.out.trans (hX57.e (fun i hi => by omega)))
          have hle := HE7.out.le
          have hw6 := hE6.le
          have hw56 := HE5.out.le
          clear hX7 hX57 hS6 hE6 hO4
          go_wp2_with fail
          go_ret2
          exact RetLE.mk_ (by rw [HF.out, U_glue]) (hO3.rebase (by omega)) HE7.out
end Go.Proofs.Ytgbamgijpgjmgaa
