/- append of a whole slice; slices.Clone of bytes; Done; Encode. -/
import Derived.Test.YtbpfdogjjoceaaaH
namespace Go.Proofs.Ytbpfdogjjoceaaa
open Go.RowKit

section
variable {P : Program} {S T : TypeId} {k : IntKind} {by8 : Nat}
theorem own_of_row' {w : World} {base : Nat} {v : Value} {n : Nat} {l : List Int} (h : w.ownsRow base T 1 v n (l.map (Value.int k))) (hw : ∀ x ∈ l, (Lit.int k x).wf = true) :
    ∃ A c, v = .slice A n c ∧ Own k T w base A n c l := by
  have h1 := h.1
  rw [List.length_map, Nat.mul_one] at h1
  have h' := h
  rcases h.2 with ⟨rfl, rfl⟩ | ⟨g, cap, cur, rfl, _⟩
  · exact ⟨none, 0, rfl, h1, h', hw⟩
  · exact ⟨_, cap, rfl, h1, h', hw⟩
theorem add_plain (b o j : Nat) : (⟨b, o, none⟩ : Addr).add j = ⟨b, o + j, none⟩ := by
  unfold Addr.add
  split
  · rename_i h0; subst h0; rfl
  · rfl
/-- append(out, src...): src any slice that reads as l2 -/
theorem run_appN (it : IntT P S T k by8) (w : World) (ty : TypeId) (base : Nat) (A : Option Addr) (n c : Nat) (l : List Int) (hown : Own k T w base A n c l)
    (A2 : Option Addr) (m c2 : Nat) (l2 : List Int) (hr : Nums k w A2 m c2 l2) (hlen : n + m ≤ 1099511627776) (hbase : base ≤ w.heap.size) :
    ∃ A' c' w', (Builtin.append_ #[S, S] ty #[.slice A n c, .slice A2 m c2]).run P w = .ok (.slice A' (n + m) c') w' ∧ Own k T w' base A' (n + m) c' (l ++ l2) ∧ w.grownBy w' (Value.slice A n c).ownBlock ∧
      ((Value.slice A' (n + m) c').ownBlock = (Value.slice A n c).ownBlock ∨ (Value.slice A' (n + m) c').ownBlock = some w.heap.size) := by
  obtain ⟨i, hi, hz0, hz1, hz2⟩ := info_parts it.info
  have hsm := it.small
  rcases A2 with _ | ad
  · have hm : m = 0 := by
      rcases Nat.eq_zero_or_pos m with h0 | h0
      · exact h0
      · obtain ⟨_, _, h, _⟩ := hr.at_ h0; cases h
    subst hm
    have hn : l2 = [] := List.eq_nil_of_length_eq_zero hr.len
    subst hn
    refine ⟨A, c, w, ?_, by simpa using hown, World.grownBy.refl w _, .inl rfl⟩
    rcases hown.form with ⟨rfl, rfl, rfl⟩ | ⟨g, rfl, _, _, hnc, _⟩
    · simp [Builtin.append_, run_underlying it.und, sizeOf, typeInfo, hi, Builtin.lenOf, Builtin.firstCells]
    · simp [Builtin.append_, run_underlying it.und, sizeOf, typeInfo, hi, Builtin.lenOf, Builtin.firstCells, hnc, storeCells]
  · have hcells : ∀ j u, (l2.map (Value.int k))[j]? = some u → w.cell? (ad.add j) = some u := by
      intro j u hu
      rw [List.getElem?_map] at hu
      obtain ⟨x, hx, rfl⟩ := Option.map_eq_some_iff.1 hu
      obtain ⟨hj', rfl⟩ := List.getElem?_eq_some_iff.1 hx
      obtain ⟨b, o, hh, _, hc⟩ := hr.at_ (by have := hr.len; omega)
      injection hh with hh
      subst hh
      rw [add_plain]
      exact hc j hj'
    obtain ⟨v', w', hrun, h2, h3, _, h5⟩ := run_append_own_at (P := P) w base S ty T i (.int k 0) 1 by8 it.und hi hz0 hz1 hz2 rfl (by decide) _ n _ hown.2.1 ad m c2 (l2.map (Value.int k)) (by rw [List.length_map, hr.len, Nat.mul_one]) hcells (ints_oneCell k l2) (by unfold maxLen; omega)
      (by have : (n + m) * by8 ≤ (n + m) * 8 := Nat.mul_le_mul_left _ hsm
          omega) hbase
    rw [← List.map_append] at h2
    obtain ⟨A', c', rfl, hO⟩ := own_of_row' h2 (by intro y hy; rcases List.mem_append.1 hy with hy | hy; exact hown.2.2 y hy; exact hr.wf y hy)
    exact ⟨A', c', w', hrun, hO, h3, h5⟩
theorem wpList_appN (it : IntT P S T k by8) (w : World) {ops : Array Oper} {rest : List Oper} {o : Oper} {a : Act} {Q : Exit → Act → World → Prop} (hgd : o.guard = none) (s x : Operand)
    (ho : o.op = .call { callee := .builtin .append, args := #[s, x], argTypes := #[S, S] })
    (base : Nat) (A : Option Addr) (n c : Nat) (l : List Int) (hs : a.eval s = .slice A n c) (hown : Own k T w base A n c l)
    (A2 : Option Addr) (m c2 : Nat) (l2 : List Int) (hx : a.eval x = .slice A2 m c2) (hr : Nums k w A2 m c2 l2) (hlen : n + m ≤ 1099511627776) (hbase : base ≤ w.heap.size)
    (h : ∀ A' c' w', Own k T w' base A' (n + m) c' (l ++ l2) → w.grownBy w' (Value.slice A n c).ownBlock → Below base w w' → wpList P ops Q rest (a.put o.dst (.slice A' (n + m) c')) w') :
    wpList P ops Q (o :: rest) a w := by
  obtain ⟨A', c', w', hrun, hO, h3, h5⟩ := run_appN it w o.type base A n c l hown A2 m c2 l2 hr hlen hbase
  refine wpList_plain hgd fun K hK' => ?_
  unfold Oper.wp execOp
  simp only [ho, resolve, invoke, builtin, Sem.run_bind, Sem.run_pure, Result.andThen_ok, List.map_toArray, List.map_cons, List.map_nil, hs, hx, hrun]
  exact hK' _ _ (h A' c' w' hO h3 ((Below.refl base w).grown h3 hbase (ownBlock_le hown)))
/-- append of one number, as a step of a region that draws; W any world, the source lies at block g -/
theorem step_app1 (it : IntT P S T k by8) {W : World} {ops : Array Oper} {o : Oper} {a : Act} {K : Act → World → Prop} {Q : Exit → Act → World → Prop} {R : Prop} (hgd : o.guard = none) (s x : Operand)
    (ho : o.op = .call { callee := .builtin .append, args := #[s, x], argTypes := #[S, S] })
    (base : Nat) (A : Option Addr) (n c : Nat) (l : List Int) (hs : a.eval s = .slice A n c) (hown : Own k T W base A n c l)
    (g : Nat) (v : Int) (hx : a.eval x = .slice (some ⟨g, 0, none⟩) 1 1) (hcell : W.cell? ⟨g, 0, none⟩ = some (.int k v)) (hwf : (Lit.int k v).wf = true)
    (hlen : n + 1 ≤ 1099511627776) (hbase : base ≤ W.heap.size)
    (h : ∀ g' c' w', Own k T w' base (some ⟨g', 0, none⟩) (n + 1) c' (l ++ [v]) → W.grownBy w' (Value.slice A n c).ownBlock → Below base W w' → K (a.put o.dst (.slice (some ⟨g', 0, none⟩) (n + 1) c')) w') :
    if Region.wanted o (yielded ops a.tmps) = true then Oper.wp P o a W K Q else R := by
  have hw : Region.wanted o (yielded ops a.tmps) = true := by simp [Region.wanted, hgd]
  rw [if_pos hw]
  have hN : Nums k W (some ⟨g, 0, none⟩) 1 1 [v] := ⟨rfl, Nat.le_refl _, by unfold maxLen; omega, by intro y hy; simp at hy; subst hy; exact hwf, fun _ => ⟨g, 0, rfl, World.block_lt_of_cell? W _ hcell, fun i hi => by
    have : i = 0 := by simpa using hi
    subst this; exact hcell⟩⟩
  obtain ⟨A', c', w', hrun, hO, h3, h5⟩ := run_appN it W o.type base A n c l hown _ 1 1 [v] hN hlen hbase
  unfold Oper.wp execOp
  simp only [ho, resolve, invoke, builtin, Sem.run_bind, Sem.run_pure, Result.andThen_ok, List.map_toArray, List.map_cons, List.map_nil, hs, hx, hrun]
  rcases hO.form with ⟨_, h0, _⟩ | ⟨g', rfl, _⟩
  · omega
  · exact h g' c' w' hO h3 ((Below.refl base W).grown h3 hbase (ownBlock_le hown))
theorem Own.empty (w : World) (k : IntKind) (T : TypeId) : Own k T (w.alloc (.cells #[] T)) w.heap.size (some ⟨w.heap.size, 0, none⟩) 0 0 [] :=
  ⟨rfl, World.ownsRow_made w #[] 0 (Nat.le_refl _) (by unfold maxLen; omega) rfl, by simp⟩
end

set_option maxHeartbeats 400000 in
theorem cloneB_c (A : Option Addr) (n c : Nat) (l : List Int) (w : World) (h : Nums .u8 w A n c l) (hn : n ≤ 1099511627776) :
    Calls Try.prog 73 #[.slice A n c] w (RetOwn .u8 5 w l) := by
  rcases A with _ | ad
  · have h0 : n = 0 := by
      rcases Nat.eq_zero_or_pos n with h0 | h0
      · exact h0
      · obtain ⟨_, _, hh, _⟩ := h.at_ h0; cases hh
    have hl : l = [] := List.eq_nil_of_length_eq_zero (by rw [h.len, h0])
    have HL := Lib.hid hl
    clear h0 hl hn
    have hnil : ∀ W : World, (binOp .eql 47 (.slice none n c) (.slice none 0 0)).run Try.prog W = .ok (.bool true) W := fun W => Lib.run_eql_slice_nil W _ _ _ _ _ _ _ Try.underlying47
    go_enter Try.func73, Try.ntmps73
    go_wp2
    go_ret
    exact RetOwn.mk_ HL.out (Own.nil _ _ _ _) (E.refl _)
  · have hE := (E.refl w).alloc (.cells #[] 5)
    have h' := h.e hE
    have HN := Lib.hid hn
    clear hn
    have hnil : ∀ W : World, (binOp .eql 47 (.slice (some ad) n c) (.slice none 0 0)).run Try.prog W = .ok (.bool false) W := fun W => Lib.run_eql_slice_nil W _ _ _ _ _ _ _ Try.underlying47
    go_enter Try.func73, Try.ntmps73
    go_wp2_with (at_builtin; refine wpList_appN byteT _ rfl _ _ rfl w.heap.size _ _ _ [] rfl (Own.empty w _ _) _ _ _ l rfl h' (by have := HN.out; omega) (by simp) ?_; intro A' c' w1 hO hG hB)
    go_ret
    exact RetOwn.mk_ rfl (by simpa using hO) (hE.up hB)

set_option maxHeartbeats 400000 in
theorem wDone_c (g base : Nat) (l : List Int) (w : World) (hW : Wr w base g l) (hl : l.length ≤ 1099511627776) :
    Calls Try.prog 62 #[.pointer (some ⟨g, 0, none⟩)] w (RetOwn .u8 5 w l) := by
  obtain ⟨hb, A, n, c, hg, hO⟩ := hW
  have hc0 : w.cell? ⟨g, 0, none⟩ = some (.slice A n c) := by rw [cell_of_row _ _ _ _ _ _ hg]; rfl
  have HN := Lib.hid (show n ≤ 1099511627776 by rw [← hO.1]; exact hl)
  clear hg hl
  go_enter Try.func62, Try.ntmps62
  go_wp2_with (go_at_call 73; refine (cloneB_c _ _ _ _ _ hO.reads HN.out).mono ?_; rintro e w' ⟨A', n', c', rfl, hO', hE'⟩)
  go_ret
  exact RetOwn.mk_ rfl hO' hE'

theorem Wr.new (w : World) : Wr (w.alloc (.cells #[.slice none 0 0] 71)) w.heap.size w.heap.size [] := ⟨Nat.le_refl _, none, 0, 0, heap_alloc_new w _, Own.nil _ _ _ _⟩
theorem len_app_le {a : List Int} {m : Nat} {v : Int} (h : a.length ≤ m) (h1 : -9223372036854775808 ≤ v) (h2 : v ≤ 9223372036854775807) : (a ++ uv (zig v)).length ≤ m + 10 := by
  have := uv_len10 (zig_lt v h1 h2); simp; omega

def encF : List (Int × Int) → List Int
  | [] => []
  | (x, y) :: l => uv (zig x) ++ uv (zig y) ++ encF l
def encodeS (l : List Int) : List Int := if isBagB l then uv (zig l.length) ++ uv (zig (amountsS l).length) ++ encF (amountsS l) else []
theorem encF_step {l : List (Int × Int)} {k : Nat} {x y : Int} (h : l[k]? = some (x, y)) : encF (l.drop k) = uv (zig x) ++ uv (zig y) ++ encF (l.drop (k + 1)) := by rw [drop_at h]; rfl
theorem amF_len : ∀ (l : List Int) (i : Nat), (amF i l).length ≤ l.length
  | [], _ => by simp [amF]
  | x :: l, i => by
    have := amF_len l (i + 1)
    simp only [amF]; split <;> simp <;> omega
theorem encF_len : ∀ (l : List (Int × Int)), (∀ x ∈ l, (Lit.int .i64 x.1).wf = true ∧ (Lit.int .i64 x.2).wf = true) → (encF l).length ≤ 20 * l.length
  | [], _ => by simp [encF]
  | (x, y) :: l, h => by
    have h1 := encF_len l (fun z hz => h z (List.mem_cons_of_mem _ hz))
    have h2 := h (x, y) List.mem_cons_self
    have h3 := wf_i64 h2.1
    have h4 := wf_i64 h2.2
    have h5 := uv_len10 (zig_lt x h3.1 h3.2)
    have h6 := uv_len10 (zig_lt y h4.1 h4.2)
    simp only [encF, List.length_append, List.length_cons]; omega

set_option maxHeartbeats 1000000 in
theorem encode_c (A : Option Addr) (n c : Nat) (l : List Int) (w : World) (h : Nums .i64 w A n c l) :
    Calls Try.prog 39 #[.slice A n c] w (RetOwn .u8 5 w (encodeS l)) := by
  have hm := h.n63
  cases hbag : isBagB l
  · have HT := Lib.hid (show encodeS l = [] by simp [encodeS, hbag])
    go_enter Try.func39, Try.ntmps39
    go_wp2_with (go_at_call 49; refine (isBag_c _ _ _ _ _ h).mono ?_; rintro e w' ⟨rfl, rfl⟩)
    go_ret
    exact RetOwn.mk_ HT.out (Own.nil _ _ _ _) (E.refl _)
  · have HT := Lib.hid (show encodeS l = uv (zig n) ++ uv (zig (amountsS l).length) ++ encF (amountsS l) by simp [encodeS, hbag, h.len])
    have hn64 : n ≤ 64 := by have := isBag_len hbag; rw [h.len] at this; exact this
    have ha64 : (amountsS l).length ≤ 64 := by
      have := amF_len l 0; rw [h.len] at this; simp [amountsS, hbag]; omega
    go_enter Try.func39, Try.ntmps39
    go_wp2_with (first
      | (go_at_call 49; refine (isBag_c _ _ _ _ _ h).mono ?_; rintro e w' ⟨rfl, rfl⟩)
      | (go_at_call 28; refine (amounts_c _ _ _ _ _ h).mono ?_; rintro e w1 ⟨A1, m, c1, rfl, hP, hE1⟩))
    have hm1 : m = (amountsS l).length := hP.1.symm
    have hP0 := hP.reads
    have hEa := (E.refl w1).alloc (.cells #[.slice none 0 0] 71)
    refine (wInt_c n _ w1.heap.size [] _ (Wr.new w1) (by omega) (by omega) (by simp) (by simp)).mono ?_
    rintro e w2 ⟨rfl, hW2, hB2⟩
    have hE2 := hEa.up hB2.1
    rw [List.nil_append] at hW2
    have hl2 := uv_len10 (zig_lt n (by omega) (by omega))
    have hm64 : m ≤ 64 := by omega
    have HM := Lib.hid hm1
    clear hm1
    have hm63 := hP0.n63
    go_wp2_with fail
    refine (wInt_c m _ w1.heap.size _ _ hW2 (by omega) (by omega) (by omega) hE2.le).mono ?_
    rintro e w3 ⟨rfl, hW3, hB3⟩
    have hE3 := hE2.up hB3.1
    have hl3 := len_app_le (v := m) hl2 (by omega) (by omega)
    go_wp2
    go_loopw [24] (fun i wr => ∃ (k : Nat) (out : List Int), k ≤ m ∧ i = .int .i64 k ∧ Wr wr w1.heap.size w1.heap.size out ∧ Hid (out.length ≤ 20 + 20 * k) ∧ E w1 wr ∧ Hid (out ++ encF ((amountsS l).drop k) = encodeS l)) (fun i _ => m - (intOf i).toNat)
    case atStart => exact ⟨0, _, Nat.zero_le _, rfl, hW3, hl3, hE3, show _ = _ by rw [HT.out, HM.out]; rfl⟩
    case round =>
      obtain ⟨k, out, hk, rfl, hW, hol, hE, hs⟩ := hrel
      by_cases hlt : k < m
      · obtain ⟨b, o, x, y, rfl, hb, hx, hwx, hwy, hc1, hc2⟩ := (hP0.e hE).get hlt
        have HX := Lib.hid (encF_step hx)
        have bx := wf_i64 hwx
        have hby' := wf_i64 hwy
        have HBX := Lib.hid bx
        have HBY := Lib.hid hby'
        clear hx hwx hwy bx hby'
        have hEb := hE.alloc (.cells #[.int .i64 x, .int .i64 y] 67)
        go_wp2_with fail
        refine (wInt_c x _ w1.heap.size _ _ (hW.e ((E.refl _).alloc _)) HBX.out.1 HBX.out.2 (by have := hol.out; omega) hEb.le).mono ?_
        rintro e w4 ⟨rfl, hW4, hB4⟩
        have hE4 := hEb.up hB4.1
        have hgb : w4.heap[wr.heap.size]? = some (.cells #[.int .i64 x, .int .i64 y] 67 (0, 0)) := by
          rw [hB4.2 wr.heap.size (by simp) (by have := blk_lt hW.2.choose_spec.choose_spec.choose_spec.1; omega) (by rw [heap_alloc_new]; intro cs fr hh; injection hh with hh; injection hh with _ ht; exact absurd ht (by decide))]
          exact heap_alloc_new wr _
        have hcy : w4.cell? ⟨wr.heap.size, 1, none⟩ = some (.int .i64 y) := by rw [cell_of_row _ _ _ _ _ _ hgb]; rfl
        have hl4 := len_app_le (v := x) (Nat.le_refl out.length) HBX.out.1 HBX.out.2
        clear hgb
        go_wp2_with fail
        refine (wInt_c y _ w1.heap.size _ _ hW4 HBY.out.1 HBY.out.2 (by have := hol.out; omega) hE4.le).mono ?_
        rintro e w5 ⟨rfl, hW5, hB5⟩
        have hl5 := len_app_le (v := y) hl4 HBY.out.1 HBY.out.2
        go_wp2
        go_roundw
        case rel => exact ⟨k + 1, _, by omega, by go_num, hW5, show _ ≤ _ by have := hol.out; omega, hE4.up hB5.1, show _ = _ by rw [← hs.out, HX.out]; simp⟩
        case measure => simp [intOf]; omega
      · have HF := Lib.hid (show encodeS l = out by rw [← hs.out, drop_end hP.1 (by omega)]; simp [encF])
        go_wp2_with (go_at_call 62; refine (wDone_c _ _ _ _ hW (by have := hol.out; omega)).mono ?_; rintro e w' ⟨A', n', c', rfl, hO', hE'⟩)
        go_ret
        exact RetOwn.mk_ HF.out (hO'.rebase (by have := hE.le; have := hE1.le; omega)) ((hE1.trans hE).trans hE')
end Go.Proofs.Ytbpfdogjjoceaaa
