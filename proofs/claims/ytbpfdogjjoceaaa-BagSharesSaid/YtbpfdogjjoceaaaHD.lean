/- hash.Bytes. -/
import Derived.Test.YtbpfdogjjoceaaaHB
import Derived.Test.YtbpfdogjjoceaaaHC
namespace Go.Proofs.Ytbpfdogjjoceaaa
open Go.RowKit Go.Shelf
attribute [local go_sem] Oper.semAt_some

section
variable {P : Program} {S T : TypeId} {k : IntKind} {by8 : Nat}
theorem wpListIn_app1n {F : Fence} {N : Nat} (it : IntT P S T k by8) (w : World) {ops : Array Oper} {rest : List Oper} {o : Oper} {a : Act} {Q : Exit → Act → World → Prop} (hgd : o.guard = none) (s x : Operand)
    (ho : o.op = .call { callee := .builtin .append, args := #[s, x], argTypes := #[S, S] })
    (base : Nat) (A : Option Addr) (n c : Nat) (l : List Int) (hs : a.eval s = .slice A n c) (hown : Own k T w base A n c l)
    (v : Int) (hx : a.eval x = .slice (some ⟨w.heap.size, 0, none⟩) 1 1) (hwf : (Lit.int k v).wf = true)
    (hlen : n ≤ 1099511627776) (hbase : base ≤ w.heap.size)
    (h : ∀ g' c' w', Own k T w' base (some ⟨g', 0, none⟩) (n + 1) c' (l ++ [v]) → w.grownBy w' (Value.slice A n c).ownBlock → Below base w w' → wpListIn F N P ops Q rest (a.put o.dst (.slice (some ⟨g', 0, none⟩) (n + 1) c')) w') :
    wpListIn F N P ops Q (o :: rest) a (w.alloc (.cells #[.int k v] T)) := by
  obtain ⟨i, hi, hz0, hz1, hz2⟩ := info_parts it.info
  have hsm := it.small
  have hown' := hown.e ((E.refl w).alloc (.cells #[.int k v] T))
  refine wpListIn_append_own (w.alloc (.cells #[.int k v] T)) hgd s x S ho base T i (.int k 0) 1 by8 it.und hi hz0 hz1 hz2 rfl (by decide) _ n _ hs hown'.2.1 ⟨w.heap.size, 0, none⟩ 1 1 [.int k v] hx rfl
    (by intro j u hu
        cases j with
        | zero => simp at hu; subst hu; exact cell_new w (.int k v) T
        | succ j => simp at hu)
    (by intro u hu; simp at hu; subst hu; rfl) (by unfold maxLen; omega)
    (by have : (n + 1) * by8 ≤ (n + 1) * 8 := Nat.mul_le_mul_left _ hsm
        omega) (by simp; omega) ?_
  intro v' w' h2 h3 _
  have hm : l.map (Value.int k) ++ [.int k v] = (l ++ [v]).map (Value.int k) := by simp
  rw [hm] at h2
  obtain ⟨g', c', rfl, hO⟩ := own_of_row h2 (by intro y hy; rcases List.mem_append.1 hy with hy | hy; exact hown.2.2 y hy; simp at hy; subst hy; exact hwf) (by omega)
  have hg := grown_of_alloc h3
  exact h g' c' w' hO hg ((Below.refl base w).grown hg hbase (ownBlock_le hown))
theorem mk_run (it : IntT P S T k by8) (w : World) (kl kc : IntKind) (C : Int) (h0 : 0 ≤ C) (hC : C ≤ 17592186044416) :
    ∃ w', (Instr.makeSlice S (.int kl 0) (.int kc C)).run P w = .ok (.slice (some ⟨w.heap.size, 0, none⟩) 0 C.toNat) w' ∧ Own k T w' w.heap.size (some ⟨w.heap.size, 0, none⟩) 0 C.toNat [] ∧ E w w' ∧ w'.heap.size = w.heap.size + 1 := by
  obtain ⟨i, hi, hz0, hz1, hz2⟩ := info_parts it.info
  have hsm := it.small
  obtain ⟨n, rfl⟩ : ∃ n : Nat, C = (n : Int) := ⟨C.toNat, by omega⟩
  have hb : i.bytes * n ≤ 281474976710656 := by
    rw [hz2]
    have : by8 * n ≤ 8 * n := Nat.mul_le_mul_right _ hsm
    omega
  have hbI : (i.bytes : Int) * (n : Int) ≤ 281474976710656 := by
    have h : ((i.bytes * n : Nat) : Int) ≤ 281474976710656 := by omega
    rwa [Int.natCast_mul] at h
  have hr := run_make (P := P) w S T i (.int k 0) it.und hi hz0 kl kc 0 n (by omega) (by omega) hbI (by omega)
  simp only [Int.toNat_natCast, Int.toNat_zero] at hr ⊢
  refine ⟨_, hr, ⟨by simp, ⟨by simp, .inr ⟨w.heap.size, n, _, rfl, Nat.le_refl _, heap_alloc_new w _, Nat.zero_le _, by unfold maxLen; omega, by rw [hz1]; show (madeCells #[Value.int k 0] (n * 1)).size = n * 1; rw [size_madeCells], by simp⟩⟩, by simp⟩, (E.refl w).alloc _, by simp⟩
end
theorem own_putO {k : IntKind} {T : TypeId} {W W' : World} {base : Nat} {A : Option Addr} {n c : Nat} {l : List Int} {row : Option Nat} (h : Own k T W base A n c l) (hg : W.grownBy W' row) (hr : ∀ r, row = some r → ∃ o : Obj, W.heap[r]? = some o ∧ o.isCells = false) : Own k T W' base A n c l := by
  refine ⟨h.1, World.ownsRow.kept h.2.1 hg ?_, h.2.2⟩
  rcases h.2.1.2 with ⟨e, _⟩ | ⟨g, cap, cur, e, _, hgb, _⟩
  · left; rw [e]; rfl
  · right
    intro e'
    obtain ⟨o, ho, hc⟩ := hr g (by rw [← e', e]; rfl)
    rw [hgb] at ho; cases ho; cases hc

theorem wrap64_wf' (x : Int) : (Lit.int .i64 (wrap64 x)).wf = true := wf_of_i64 (by unfold wrap64; omega) (by unfold wrap64; omega)
/-- the box of the words that have come, the row in it, the box of the bytes -/
def WBox (W : World) (Bw Bs base : Nat) (A : Option Addr) (m c : Nat) (pre : List Int) : Prop :=
  ∃ A' c', W.heap[Bw]? = some (.cells #[.slice A' pre.length c'] 22 (0, 0)) ∧ Own .i64 3 W base A' pre.length c' (pre.map wrap64) ∧ W.heap[Bs]? = some (.cells #[.slice A m c] 47 (0, 0))
theorem WBox.kept {W W' : World} {Bw Bs base : Nat} {A : Option Addr} {m c : Nat} {pre : List Int} {row : Option Nat} (h : WBox W Bw Bs base A m c pre) (hg : W.grownBy W' row) (hr : ∀ r, row = some r → ∃ o : Obj, W.heap[r]? = some o ∧ o.isCells = false) : WBox W' Bw Bs base A m c pre := by
  obtain ⟨A', c', h1, h2, h3⟩ := h
  exact ⟨A', c', (grownBy_keeps_cells hg hr h1 rfl).trans h1, own_putO h2 hg hr, (grownBy_keeps_cells hg hr h3 rfl).trans h3⟩
theorem wbox_step {W w4 : World} {Bw base k c' : Nat} {A' : Option Addr} {xs : List Int} (hb : W.heap[Bw]? = some (.cells #[.slice A' k c'] 22 (0, 0))) (hO : Own .i64 3 W base A' k c' xs) (hG : W.grownBy w4 (Value.slice A' k c').ownBlock) :
    w4.cell? ⟨Bw, 0, none⟩ = some (.slice A' k c') ∧ w4.frozen? ⟨Bw, 0, none⟩ = false := by
  have hne := hO.apart hb (by decide)
  have hb4 : w4.heap[Bw]? = some (.cells #[.slice A' k c'] 22 (0, 0)) := by rw [hG.block Bw (blk_lt hb) (fun e => hne e.symm)]; exact hb
  exact ⟨by rw [cell_of_row _ _ _ _ _ _ hb4]; rfl, frozen_of_row _ _ _ _ _ hb4⟩
theorem wbox_next {W w4 : World} {Bw Bs base m c c' g' c2 : Nat} {A A' : Option Addr} {pre : List Int} {x : Int} (hb : W.heap[Bw]? = some (.cells #[.slice A' pre.length c'] 22 (0, 0))) (hO : Own .i64 3 W base A' pre.length c' (pre.map wrap64)) (hs : W.heap[Bs]? = some (.cells #[.slice A m c] 47 (0, 0)))
    (hO4 : Own .i64 3 w4 base (some ⟨g', 0, none⟩) (pre.length + 1) c2 (pre.map wrap64 ++ [wrap64 x])) (hG : W.grownBy w4 (Value.slice A' pre.length c').ownBlock) (hbs : Bs ≠ Bw) :
    WBox (w4.setCell ⟨Bw, 0, none⟩ (.slice (some ⟨g', 0, none⟩) (pre.length + 1) c2)) Bw Bs base A m c (pre ++ [x]) ∧ KeepsOthers W (w4.setCell ⟨Bw, 0, none⟩ (.slice (some ⟨g', 0, none⟩) (pre.length + 1) c2)) ∧
      ∀ b, (b = Bs ∨ (b < base ∧ b < W.heap.size ∧ b ≠ Bw)) → K2 b Bs W (w4.setCell ⟨Bw, 0, none⟩ (.slice (some ⟨g', 0, none⟩) (pre.length + 1) c2)) := by
  have hne := hO.apart hb (by decide)
  have hns := hO.apart hs (by decide)
  have hb4 : w4.heap[Bw]? = some (.cells #[.slice A' pre.length c'] 22 (0, 0)) := by rw [hG.block Bw (blk_lt hb) (fun e => hne e.symm)]; exact hb
  have hs4 : w4.heap[Bs]? = W.heap[Bs]? := hG.block Bs (blk_lt hs) (fun e => hns e.symm)
  have hS : (w4.setCell ⟨Bw, 0, none⟩ (.slice (some ⟨g', 0, none⟩) (pre.length + 1) c2)).heap[Bs]? = W.heap[Bs]? := (Below.heap_setCell _ _ _ _ hbs).trans hs4
  have hko : ∀ (j : Nat) (o : Obj), (Value.slice A' pre.length c').ownBlock = some j → W.heap[j]? = some o → o.isCells = true := by
    intro j o hj ho
    rcases hO.2.1.2 with ⟨e, _⟩ | ⟨g, cap, cur, e, _, hgb, _⟩
    · rw [e] at hj; cases hj
    · rw [e] at hj
      have : g = j := by simpa [Value.ownBlock] using hj
      subst this; rw [hgb] at ho; cases ho; rfl
  refine ⟨⟨some ⟨g', 0, none⟩, c2, ?_, ?_, hS.trans hs⟩, (KeepsOthers.of_grownBy hG hko).trans (KeepsOthers.setCell _ _ _), ?_⟩
  · rw [heap_setCell_same _ _ _ _ _ _ hb4, List.length_append]; rfl
  · have := hO4.far (p := ⟨Bw, 0, none⟩) (hO4.apart hb4 (by decide)) (.slice (some ⟨g', 0, none⟩) (pre.length + 1) c2)
    rw [List.length_append, List.map_append]; exact this
  · intro b hbb
    refine ⟨?_, hS⟩
    rcases hbb with rfl | ⟨h1, h2, h3⟩
    · exact hS
    · rw [Below.heap_setCell _ _ _ _ h3]
      exact hG.block b h2 (fun e => by have := ownBlock_le hO b e.symm; omega)

set_option maxRecDepth 100000 in
set_option maxHeartbeats 2000000 in
theorem bytes_in (F : Fence) (hro : F.round = none) (f1 : F.fn 48) (f2 : F.fn 76) (f3 : F.fn 90) (f4 : F.fn 77) (hsumc : ∀ k s A m c l W, ByteArray.size s ≤ 1000 → Nums .i64 W A m c l → CallsIn F k Try.prog 77 #[.string s, .slice A m c] W fun e W' => e = .returned (.int .u64 (sumS s l)) ∧ E W W') (n : Nat) (hn : 3 ≤ n) (s : ByteArray) (hs : s.size ≤ 1000) (A : Option Addr) (m c : Nat) (l : List Int) (w : World) (h : Nums .u8 w A m c l) (hm : m ≤ 1000000) :
    CallsIn F n Try.prog 48 #[.string s, .slice A m c] w fun e W' => e = .returned (.int .u64 (sumS s ((wordsL l).map wrap64 ++ [(m : Int)]))) ∧ E w W' := by
  have hn1 : 1 ≤ n := by omega
  have hn2 : 1 ≤ n - 1 - 1 := by omega
  obtain ⟨w1, hmk, hO1, hE1, hz1⟩ := mk_run intT3 w .i64 .i64 ((m : Int) / 8 + 2) (by omega) (by omega)
  refine callsIn_of_wp_marks Try.func48 rfl f1 ?_ hro
  simp only [Try.ntmps48, List.size_toArray, List.length_cons, List.length_nil, Nat.reduceAdd, Nat.reduceSub, Array.replicate_succ, Array.replicate_zero, List.push_toArray, List.append_toArray, List.nil_append, List.cons_append]
  gi_wp2_with (gi_at_call 76; refine (wordsOf_in F (n - 1) f2 hro _ _ _ _).mono ?_; rintro e w' ⟨rfl, rfl⟩)
  have htn : ((m : Int) / 8 + 2).toNat = m / 8 + 2 := by omega
  rw [htn] at hO1
  have hb2 := heap_alloc_new w1 (.cells #[.slice (some ⟨w.heap.size, 0, none⟩) 0 (m / 8 + 2)] 22)
  have hE12 : E w1 (w1.alloc (.cells #[.slice (some ⟨w.heap.size, 0, none⟩) 0 (m / 8 + 2)] 22)) := (E.refl _).alloc _
  have hz2 : (w1.alloc (.cells #[.slice (some ⟨w.heap.size, 0, none⟩) 0 (m / 8 + 2)] 22)).heap.size = w.heap.size + 1 + 1 := by rw [World.size_alloc, hz1]
  rw [hz1] at hb2
  have hO2 := hO1.e hE12
  generalize w1.alloc (.cells #[.slice (some ⟨w.heap.size, 0, none⟩) 0 (m / 8 + 2)] 22) = w2 at *
  have hb3 := heap_alloc_new w2 (.cells #[.slice A m c] 47)
  have hE23 : E w2 (w2.alloc (.cells #[.slice A m c] 47)) := (E.refl _).alloc _
  have hz3 : (w2.alloc (.cells #[.slice A m c] 47)).heap.size = w.heap.size + 1 + 1 + 1 := by rw [World.size_alloc, hz2]
  rw [hz2] at hb3
  have hO3 := hO2.e hE23
  have hbw : (w2.alloc (.cells #[.slice A m c] 47)).heap[w.heap.size + 1]? = _ := (hE23.block (k := w.heap.size + 1) (by omega)).trans hb2
  have hE3 : E w (w2.alloc (.cells #[.slice A m c] 47)) := (hE1.trans hE12).trans hE23
  generalize w2.alloc (.cells #[.slice A m c] 47) = w3 at *
  have hN3 := h.e hE3
  have hbox : w3.cell? ⟨w.heap.size + 1 + 1, 0, none⟩ = some (.slice A m c) := by rw [cell_of_row _ _ _ _ _ _ hb3]; rfl
  clear hmk hO1 hO2 hE12 hE23 hb2 hE1
  have hblk : blkOf A m (w.heap.size + 1 + 1) = w.heap.size + 1 + 1 ∨ blkOf A m (w.heap.size + 1 + 1) < w.heap.size := by
    unfold blkOf
    split
    · exact .inl rfl
    · rename_i hm0
      obtain ⟨b, o, rfl, hb, _⟩ := h.at_ (by omega)
      exact .inr hb
  refine wpIn_rangeFunc_ownF hro hn1 (gf := 90) (lb := #[.pointer (some ⟨w.heap.size + 1 + 1, 0, none⟩)]) rfl f3 (enters_of Try.func90 (by kernel_rfl) rfl)
    (words_stops F (n - 1) f3 hro (by omega) (w.heap.size + 1 + 1) A m c l (by omega) w3 (by omega) hbox hN3) K2.trans (fun W l o o' hl _ _ _ => K2.put W l o' (by omega) (by omega)) (Below.refl _ _) (fun _ => rfl)
    (fun pre W => WBox W (w.heap.size + 1) (w.heap.size + 1 + 1) w.heap.size A m c pre ∧ Below w.heap.size w W)
    (fun _ _ _ => False)
    (OwnFrom.and (Go.Own.from (fun s A B row hs hg hr => hs.kept hg hr) _) (ownFrom_below (Nat.le_refl _) (by omega)))
    (fun _ _ _ _ _ hs _ _ => hs)
    ⟨⟨_, _, hbw, hO3, hb3⟩, hE3⟩
    (fun x => { tmps := #[.string s, .slice A m c, undef, undef, .int .u64 0, .pointer (some ⟨w.heap.size + 1, 0, none⟩), .int .u64 x, .slice A m c, .int .i64 ↑m, .int .i64 (↑m / 8), .int .i64 (↑m / 8 + 2), .slice (some ⟨w.heap.size, 0, none⟩) 0 (m / 8 + 2), .slice A m c, .func (.func 90) #[] #[.pointer (some ⟨w.heap.size + 1 + 1, 0, none⟩)], .int .u64 x, undef, undef, undef, undef, undef, undef, undef, undef, undef, undef, undef, undef], defers := [] }) ?assign ?body ?done ?stop
  case assign =>
    intro ℓ x W K hK
    gi_wp2
    exact hK
  case body =>
    rintro ℓ pre x W ⟨⟨A', c', hbW, hOW, hbB⟩, hB⟩ hlt
    have hcW : W.cell? ⟨w.heap.size + 1, 0, none⟩ = some (.slice A' pre.length c') := by rw [cell_of_row _ _ _ _ _ _ hbW]; rfl
    have hpl : pre.length ≤ 1000000 := by unfold nWords at hlt; omega
    have hwx : (Lit.int .i64 (wrap64 x)).wf = true := wrap64_wf' x
    have hbs : w.heap.size ≤ W.heap.size := hB.size
    gi_wp2_with (gi_at_builtin; refine wpListIn_app1n intT3 _ rfl _ _ rfl _ _ _ _ _ rfl hOW _ rfl hwx (by omega) hbs ?_; intro g' c2 w4 hO4 hG4 hB4; obtain ⟨hc4, hf4⟩ := wbox_step hbW hOW hG4)
    obtain ⟨hX1, hX2, hX3⟩ := wbox_next hbW hOW hbB hO4 hG4 (by omega)
    exact ⟨hX2, hX3 _ (by omega), hX1, hB.trans (hB4.setCell (p := ⟨w.heap.size + 1, 0, none⟩) (by simp) _)⟩
  case done =>
    rintro D ys W hD rfl ⟨⟨A', c', hbW, hOW, hbB⟩, hB⟩ hK
    have hcW : W.cell? ⟨w.heap.size + 1, 0, none⟩ = some (.slice A' (wordsL l).length c') := by rw [cell_of_row _ _ _ _ _ _ hbW]; rfl
    have hwl : (wordsL l).length ≤ 1000000 := by simp only [wordsL, List.length_map, List.length_range, nWords, h.len]; omega
    have hwm : (Lit.int .i64 (m : Int)).wf = true := wf_of_i64 (by omega) (by omega)
    have hbs : w.heap.size ≤ W.heap.size := hB.size
    have HK := Lib.hid hK
    clear hK
    gi_wp2_with (first
      | (gi_at_builtin; refine wpListIn_app1n intT3 _ rfl _ _ rfl _ _ _ _ _ rfl hOW _ rfl hwm (by omega) hbs ?_; intro g' c2 w4 hO4 hG4 hB4)
      | (gi_at_call 77; refine (hsumc _ _ _ _ _ _ _ hs hO4.reads).mono ?_; rintro e w5 ⟨rfl, hE5⟩))
    have hK5 : w5.heap[D]? = some (.deferred (some [])) := by
      have hlt := blk_lt HK.out
      rw [hE5.block (Nat.lt_of_lt_of_le hlt hG4.size), hG4.block D hlt (fun e => ?_)]
      · exact HK.out
      · rcases hOW.2.1.2 with ⟨e', _⟩ | ⟨g, cap, cur, e', _, hgb, _⟩
        · rw [e'] at e; cases e
        · rw [e'] at e
          have : D = g := by simpa [Value.ownBlock] using e
          subst this
          rw [HK.out] at hgb; cases hgb
    refine ⟨by simp, .inl ⟨_, _, rfl, run_takeDeferred hK5, ?_⟩⟩
    exact ⟨_, results_tmp rfl _ _ _, rfl, ((hB.trans hB4).trans (Below.mono hE5 (Nat.le_trans hbs hG4.size))).trans (belowK_b (w := w) (Nat.le_refl _) _ D _ _ (by omega) hK5 rfl rfl)⟩
  case stop =>
    rintro D c pre W _ _ h _
    exact h.elim
def bytesS (s : ByteArray) (l : List Int) : Int := sumS s ((wordsL l).map wrap64 ++ [(l.length : Int)])
theorem bytes_c (s : ByteArray) (hs : s.size ≤ 1000) (A : Option Addr) (m c : Nat) (l : List Int) (w : World) (h : Nums .u8 w A m c l) (hm : m ≤ 1000000) :
    Calls Try.prog 48 #[.string s, .slice A m c] w fun e W' => e = .returned (.int .u64 (bytesS s l)) ∧ E w W' := by
  have := callsIn_wide.1 (bytes_in Fence.wide rfl trivial trivial trivial trivial (fun _ s A m c l W h1 h2 => callsIn_wide.2 (sum_c s h1 A m c l W h2)) 3 (Nat.le_refl _) s hs A m c l w h hm)
  rw [bytesS, h.len]
  exact this
end Go.Proofs.Ytbpfdogjjoceaaa
