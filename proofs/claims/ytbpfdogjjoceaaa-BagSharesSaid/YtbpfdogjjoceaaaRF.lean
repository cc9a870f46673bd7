/- Decode of a bag. -/
import Derived.Test.YtbpfdogjjoceaaaRE
import Derived.Test.YtbpfdogjjoceaaaW
namespace Go.Proofs.Ytbpfdogjjoceaaa
open Go.RowKit

theorem flat2_rep (n : Nat) : flat2 (List.replicate n (0, 0)) = List.replicate (n * 2) (.int .i64 0) := by
  induction n with
  | zero => rfl
  | succ n ih =>
    rw [List.replicate_succ, show (n + 1) * 2 = n * 2 + 1 + 1 by omega, List.replicate_succ, List.replicate_succ, ← ih]; rfl
theorem flat2_set (l : List (Int × Int)) (i : Nat) (x y u v : Int) (h : l[i]? = some (x, y)) : (flat2 l).set (i * 2) (.int .i64 u) = flat2 (l.set i (u, y)) ∧ (flat2 l).set (i * 2 + 1) (.int .i64 v) = flat2 (l.set i (x, v)) := by
  induction l generalizing i with
  | nil => simp at h
  | cons p l ih =>
    have e : ∀ q : Int × Int, flat2 (q :: l) = .int .i64 q.1 :: .int .i64 q.2 :: flat2 l := fun _ => rfl
    cases i with
    | zero =>
      simp at h; subst h
      exact ⟨rfl, rfl⟩
    | succ i =>
      obtain ⟨h1, h2⟩ := ih i (by simpa using h)
      rw [e, show (i + 1) * 2 = i * 2 + 1 + 1 by omega]
      constructor
      · rw [List.set_cons_succ, List.set_cons_succ, h1]; rfl
      · rw [List.set_cons_succ, List.set_cons_succ, h2]; rfl
theorem OwnP.set {T : TypeId} {w : World} {base g n c : Nat} {l : List (Int × Int)} (h : OwnP T w base (some ⟨g, 0, none⟩) n c l) {i : Nat} {x y u v : Int} (hi : l[i]? = some (x, y)) (hu : (Lit.int .i64 u).wf = true) (hv : (Lit.int .i64 v).wf = true) :
    OwnP T (w.setCell ⟨g, i * 2, none⟩ (.int .i64 u)) base (some ⟨g, 0, none⟩) n c (l.set i (u, y)) ∧ OwnP T (w.setCell ⟨g, i * 2 + 1, none⟩ (.int .i64 v)) base (some ⟨g, 0, none⟩) n c (l.set i (x, v)) := by
  obtain ⟨h1, h2, h3⟩ := h
  have hxy := h3 _ (List.mem_of_getElem? hi)
  obtain ⟨s1, s2⟩ := flat2_set l i x y u v hi
  refine ⟨⟨by simpa using h1, by rw [← s1]; exact (World.ownsRow.stored h2 (i * 2) _).1, fun z hz => ?_⟩, ⟨by simpa using h1, by rw [← s2]; exact (World.ownsRow.stored h2 (i * 2 + 1) _).1, fun z hz => ?_⟩⟩
  · rcases List.mem_or_eq_of_mem_set hz with hz | rfl
    · exact h3 z hz
    · exact ⟨hu, hxy.2⟩
  · rcases List.mem_or_eq_of_mem_set hz with hz | rfl
    · exact h3 z hz
    · exact ⟨hxy.1, hv⟩
/-- make([]T, n), T a pair -/
theorem wpList_mkP {P : Program} {S T : TypeId} (it : PairT P S T) (w : World) {ops : Array Oper} {rest : List Oper} {o : Oper} {a : Act} {Q : Exit → Act → World → Prop} (hgd : o.guard = none) (x y : Operand)
    (ho : o.op = Op.makeSlice S x y) (kl kc : IntKind) (L C : Int) (n : Nat) (hl : a.eval x = .int kl L) (hc : a.eval y = .int kc C) (hL : L = (n : Int)) (hC : C = (n : Int)) (hn : n ≤ 1099511627776)
    (h : ∀ w', OwnP T w' w.heap.size (some ⟨w.heap.size, 0, none⟩) n n (List.replicate n (0, 0)) → E w w' → w'.heap.size = w.heap.size + 1 → wpList P ops Q rest (a.put o.dst (.slice (some ⟨w.heap.size, 0, none⟩) n n)) w') :
    wpList P ops Q (o :: rest) a w := by
  obtain ⟨i, hi, hz0, hz1, hz2⟩ := info_parts it.info
  refine wpList_plain hgd fun K hK' => ?_
  have hbI : (i.bytes : Int) * (n : Int) ≤ 281474976710656 := by rw [hz2]; omega
  have hr := run_make (P := P) w S T i _ it.und hi hz0 kl kc n n (by omega) (by omega) hbI (by omega)
  simp only [Int.toNat_natCast] at hr
  subst hL
  subst hC
  unfold Oper.wp
  simp [execOp, ho, hl, hc, hr, Result.andThen]
  refine hK' _ _ (h _ ⟨by simp, ⟨by rw [flat2_len]; simp, .inr ⟨w.heap.size, n, _, rfl, Nat.le_refl _, heap_alloc_new w _, Nat.le_refl _, by unfold maxLen; omega, by rw [size_madeCells, hz1], ?_⟩⟩, ?_⟩ ((E.refl w).alloc _) (by simp))
  · rw [hz1, flat2_rep]
    show (madeCells #[Value.int .i64 0, Value.int .i64 0] (n * 2)).toList.take (n * 2) = _
    apply List.ext_getElem
    · simp [madeCells]
    · intro j h1 h2
      simp [madeCells]
      rcases Nat.mod_two_eq_zero_or_one j with h | h <;> simp [h]
  · intro z hz
    rw [List.eq_of_mem_replicate hz]
    exact ⟨wf_zero _, wf_zero _⟩

def decF : Nat → List Int → Int → List (Int × Int) × List Int × Int
  | 0, r, e => ([], r, e)
  | k + 1, r, e =>
    let a := rdIS r e
    let b := rdIS a.2.1 a.2.2
    let t := decF k b.2.1 b.2.2
    ((a.1, b.1) :: t.1, t.2)
def decodeS (l : List Int) : List Int × Int :=
  let a := rdIS l 0
  let b := rdIS a.2.1 a.2.2
  if a.1 < 0 ∨ 64 < a.1 ∨ b.1 < 0 ∨ a.1 < b.1 then ([], 2) else
    let t := decF b.1.toNat b.2.1 b.2.2
    if endS t.2.1 t.2.2 ≠ 0 ∨ validS a.1 t.1 = false then ([], 2) else ofS a.1 t.1

theorem OwnP.getg {T : TypeId} {w : World} {base g n c : Nat} {l : List (Int × Int)} (h : OwnP T w base (some ⟨g, 0, none⟩) n c l) {i : Nat} (hi : i < n) :
    ∃ x y, l[i]? = some (x, y) ∧ w.cell? ⟨g, i * 2, none⟩ = some (.int .i64 x) ∧ w.cell? ⟨g, i * 2 + 1, none⟩ = some (.int .i64 y) ∧ w.frozen? ⟨g, i * 2, none⟩ = false ∧ w.frozen? ⟨g, i * 2 + 1, none⟩ = false := by
  obtain ⟨b, o, x, y, e, _, hx, _, _, h1, h2⟩ := h.reads.get hi
  injection e with e
  injection e with e1 e2
  subst e1 e2
  rw [Nat.zero_add] at h1 h2
  exact ⟨x, y, hx, h1, h2, World.ownsRow.frozenAt h.2.1 _, World.ownsRow.frozenAt h.2.1 _⟩
theorem OwnP.keptg {T : TypeId} {w w' : World} {base g gl n c : Nat} {l : List (Int × Int)} (h : OwnP T w base (some ⟨gl, 0, none⟩) n c l) (hG : w.grownBy w' (some g)) (hne : gl ≠ g) : OwnP T w' base (some ⟨gl, 0, none⟩) n c l :=
  ⟨h.1, h.2.1.kept hG (.inr (by simp [Value.ownBlock]; exact hne)), h.2.2⟩
theorem Rd.far {w : World} {g : Nat} {rest : List Int} {err : Int} (h : Rd w g rest err) {p : Addr} (hp : g < p.block) (u : Value) : Rd (w.setCell p u) g rest err := by
  obtain ⟨A, n, c, hg, hN, hbd⟩ := h
  refine ⟨A, n, c, by rw [Below.heap_setCell _ _ _ _ (by omega)]; exact hg, ⟨hN.len, hN.cap, hN.mx, hN.wf, fun hn => ?_⟩, hbd⟩
  obtain ⟨b, o, h1, h2, h3⟩ := hN.at_ hn
  refine ⟨b, o, h1, by simpa [World.setCell] using h2, fun i hi => ?_⟩
  rw [World.cell?_setCell_other _ _ _ _ (fun e => by have := hbd b o h1 hn; subst e; simp at hp; omega)]
  exact h3 i hi
theorem Rd.e {w w' : World} {g : Nat} {rest : List Int} {err : Int} (h : Rd w g rest err) (hE : E w w') : Rd w' g rest err := by
  obtain ⟨A, n, c, hg, hN, hbd⟩ := h
  exact ⟨A, n, c, by rw [hE.block (blk_lt hg)]; exact hg, hN.e hE, hbd⟩
theorem rdIS_wf {r : List Int} {e : Int} (hb : ∀ x ∈ r, 0 ≤ x ∧ x ≤ 255) : (Lit.int .i64 (rdIS r e).1).wf = true := by
  obtain ⟨z, hz, hl⟩ := rdUS_nat (err := e) hb
  have := unzig_range hl
  simp only [rdIS, hz, Int.toNat_natCast]
  exact wf_of_i64 this.1 this.2

theorem mid_rep {d : List (Int × Int)} {k M : Nat} (hd : d.length = k) (hk : k < M) : (d ++ List.replicate (M - k) (0, 0))[k]? = some (0, 0) := by
  rw [List.getElem?_append_right (by omega), hd, Nat.sub_self]
  rw [show M - k = (M - k - 1) + 1 by omega, List.replicate_succ]; rfl
theorem mid_rep_set {d : List (Int × Int)} {k M : Nat} {q : Int × Int} (hd : d.length = k) (hk : k < M) : (d ++ List.replicate (M - k) (0, 0)).set k q = d ++ q :: List.replicate (M - (k + 1)) (0, 0) := by
  rw [List.set_append_right _ _ (by omega), hd, Nat.sub_self, show M - k = (M - (k + 1)) + 1 by omega, List.replicate_succ]; rfl
theorem decF_step {k M : Nat} {r : List Int} {e : Int} (hk : k < M) {x y : Int} {r1 r2 : List Int} {e1 e2 : Int} (h1 : rdIS r e = (x, r1, e1)) (h2 : rdIS r1 e1 = (y, r2, e2)) :
    decF (M - k) r e = ((x, y) :: (decF (M - (k + 1)) r2 e2).1, (decF (M - (k + 1)) r2 e2).2) := by
  rw [show M - k = (M - (k + 1)) + 1 by omega, decF]
  simp only [h1, h2]

set_option maxHeartbeats 4000000 in
set_option maxRecDepth 100000 in
theorem decode_c (A : Option Addr) (n c : Nat) (l : List Int) (w : World) (h : Nums .u8 w A n c l) (hn : n ≤ 1099511627776) :
    Calls Try.prog 42 #[.slice A n c] w (RetOwnErr .i64 3 w (decodeS l)) := by
  have HN := Lib.hid hn
  clear hn
  go_enter Try.func42, Try.ntmps42
  go_wp2_with fail
  refine (read_c _ _ _ _ _ h HN.out).mono ?_
  rintro e w1 ⟨g, rfl, hR1, hgw, hE1⟩
  go_wp2_with fail
  refine (rInt_c _ _ _ _ hR1).mono ?_
  rintro e w2 ⟨rfl, hR2, hG2⟩
  have hE2 := hE1.grown hG2 (fun k hk => by injection hk with hk; omega)
  generalize ha : rdIS l 0 = a at hR2 ⊢
  obtain ⟨N, r1, e1⟩ := a
  go_wp2_with fail
  refine (rInt_c _ _ _ _ hR2).mono ?_
  rintro e w3 ⟨rfl, hR3, hG3⟩
  have hE3 := hE2.grown hG3 (fun k hk => by injection hk with hk; omega)
  have hwM := rdIS_wf (e := e1) hR2.bytes
  generalize hb : rdIS r1 e1 = b at hR3 hwM ⊢
  obtain ⟨M, r2, e2⟩ := b
  have HS := Lib.hid (show decodeS l = if N < 0 ∨ 64 < N ∨ M < 0 ∨ N < M then ([], 2) else
      if endS (decF M.toNat r2 e2).2.1 (decF M.toNat r2 e2).2.2 ≠ 0 ∨ validS N (decF M.toNat r2 e2).1 = false then ([], 2) else ofS N (decF M.toNat r2 e2).1 by
    simp only [decodeS, ha, hb])
  clear ha hb hR1 hR2 hG2 hG3 hE1 hE2 hwM
  simp only at hR3 ⊢
  by_cases c1 : N < 0
  · have HF := Lib.hid (show decodeS l = ([], 2) by rw [HS.out, if_pos (.inl c1)])
    go_wp2
    go_ret2
    exact RetOwnErr.mk_ HF.out (Own.nil _ _ _ _) hE3
  have d1 : decide (N < 0) = false := by simpa using c1
  by_cases c2 : 64 < N
  · have HF := Lib.hid (show decodeS l = ([], 2) by rw [HS.out, if_pos (.inr (.inl c2))])
    go_wp2
    go_ret2
    exact RetOwnErr.mk_ HF.out (Own.nil _ _ _ _) hE3
  have d2 : decide (64 < N) = false := by simpa using c2
  by_cases c3 : M < 0
  · have HF := Lib.hid (show decodeS l = ([], 2) by rw [HS.out, if_pos (.inr (.inr (.inl c3)))])
    go_wp2
    go_ret2
    exact RetOwnErr.mk_ HF.out (Own.nil _ _ _ _) hE3
  have d3 : decide (M < 0) = false := by simpa using c3
  by_cases c4 : N < M
  · have HF := Lib.hid (show decodeS l = ([], 2) by rw [HS.out, if_pos (.inr (.inr (.inr c4)))])
    go_wp2
    go_ret2
    exact RetOwnErr.mk_ HF.out (Own.nil _ _ _ _) hE3
  have d4 : decide (N < M) = false := by simpa using c4
  have HT := Lib.hid (show decodeS l = if endS (decF M.toNat r2 e2).2.1 (decF M.toNat r2 e2).2.2 ≠ 0 ∨ validS N (decF M.toNat r2 e2).1 = false then ([], 2) else ofS N (decF M.toNat r2 e2).1 by
    rw [HS.out, if_neg]; omega)
  clear HS
  obtain ⟨m, rfl⟩ : ∃ m : Nat, M = m := ⟨M.toNat, by omega⟩
  have hm64 : m ≤ 64 := by omega
  rw [Int.toNat_natCast] at HT
  go_wp2_with (at_make; refine wpList_mkP amtT _ rfl _ _ rfl _ _ _ _ m rfl rfl rfl rfl (by omega) ?_; intro w4 hO4 hE4 hsz4)
  have hgl : g < w3.heap.size := by obtain ⟨_, _, _, hg, _⟩ := hR3; exact blk_lt hg
  have hR4 := hR3.e hE4
  have hle3 := hE3.le
  generalize hgle : w3.heap.size = gl at *
  have hE4' := hE3.trans hE4
  clear hE4 hR3 hsz4
  go_loopw [34] (fun t wr => ∃ (k : Nat) (d : List (Int × Int)) (r : List Int) (e : Int), k ≤ m ∧ t = .int .i64 k ∧ Hid (d.length = k) ∧ OwnP 67 wr gl (some ⟨gl, 0, none⟩) m m (d ++ List.replicate (m - k) (0, 0)) ∧ Rd wr g r e ∧ E w wr ∧ Hid ((d ++ (decF (m - k) r e).1, (decF (m - k) r e).2) = decF m r2 e2)) (fun t _ => m - (intOf t).toNat)
  case atStart => exact ⟨0, [], r2, e2, Nat.zero_le _, rfl, rfl, hO4, hR4, hE4', rfl⟩
  case round =>
    obtain ⟨k, d, r, e, hk, rfl, hd, hO, hR, hE, hs⟩ := hrel
    by_cases hlt : k < m
    · go_wp2_with fail
      refine (rInt_c _ _ _ _ hR).mono ?_
      rintro ee w5 ⟨rfl, hR5, hG5⟩
      have hwx := rdIS_wf (e := e) hR.bytes
      generalize hx : rdIS r e = a at hR5 hwx ⊢
      obtain ⟨x, r5, e5⟩ := a
      have HX := Lib.hid hx
      clear hx
      simp only at hR5 hwx ⊢
      have hO5 := hO.keptg hG5 (by omega)
      have hE5 := hE.grown hG5 (fun k hk => by injection hk with hk; omega)
      obtain ⟨_, _, hz, hc1, hc2, hf1, hf2⟩ := hO5.getg hlt
      rw [mid_rep hd.out hlt] at hz
      injection hz with hz
      injection hz with z1 z2
      subst z1 z2
      have hO6 := (hO5.set (mid_rep hd.out hlt) hwx (wf_zero _)).1
      rw [mid_rep_set hd.out hlt] at hO6
      have hR6 := hR5.far (p := ⟨gl, k * 2, none⟩) hgl (.int .i64 x)
      have hE6 := hE5.setCell (p := ⟨gl, k * 2, none⟩) hle3 (.int .i64 x)
      clear hO hO5 hR hR5 hE hE5 hG5
      go_wp2_with fail
      generalize w5.setCell ⟨gl, k * 2, none⟩ (.int .i64 x) = w6 at *
      refine (rInt_c _ _ _ _ hR6).mono ?_
      rintro ee w7 ⟨rfl, hR7, hG7⟩
      have hwy := rdIS_wf (e := e5) hR6.bytes
      generalize hy : rdIS r5 e5 = a at hR7 hwy ⊢
      obtain ⟨y, r7, e7⟩ := a
      have HY := Lib.hid hy
      clear hy hc1 hc2 hf1 hf2
      simp only at hR7 hwy ⊢
      have hO7 := hO6.keptg hG7 (by omega)
      have hE7 := hE6.grown hG7 (fun k hk => by injection hk with hk; omega)
      obtain ⟨_, _, hz, hc1, hc2, hf1, hf2⟩ := hO7.getg hlt
      have hz' : (d ++ (x, 0) :: List.replicate (m - (k + 1)) (0, 0))[k]? = some (x, 0) := by rw [List.getElem?_append_right (by rw [hd.out]; omega), hd.out, Nat.sub_self]; rfl
      rw [hz'] at hz
      injection hz with hz
      injection hz with z1 z2
      subst z1 z2
      have hO8 := (hO7.set hz' hwx hwy).2
      have hset : (d ++ (x, 0) :: List.replicate (m - (k + 1)) (0, 0)).set k (x, y) = (d ++ [(x, y)]) ++ List.replicate (m - (k + 1)) (0, 0) := by
        rw [List.set_append_right _ _ (by rw [hd.out]; omega), hd.out, Nat.sub_self]; simp
      rw [hset] at hO8
      have hR8 := hR7.far (p := ⟨gl, k * 2 + 1, none⟩) hgl (.int .i64 y)
      have hE8 := hE7.setCell (p := ⟨gl, k * 2 + 1, none⟩) hle3 (.int .i64 y)
      clear hO6 hO7 hR6 hR7 hE6 hE7 hG7 hz' hset
      go_wp2
      go_roundw
      case rel => exact ⟨k + 1, d ++ [(x, y)], r7, e7, by omega, by go_num, show _ = _ by simp [hd.out], hO8, hR8, hE8, show _ = _ by rw [← hs.out, decF_step hlt HX.out HY.out]; simp⟩
      case measure => simp [intOf]; omega
    · have hkm : k = m := by omega
      have HD := Lib.hid (show decF m r2 e2 = (d, r, e) by rw [← hs.out, hkm, Nat.sub_self]; simp [decF])
      have hOd : OwnP 67 wr gl (some ⟨gl, 0, none⟩) m m d := by rw [hkm, Nat.sub_self] at hO; simpa using hO
      have HT2 := Lib.hid (show decodeS l = if endS r e ≠ 0 ∨ validS N d = false then ([], 2) else ofS N d by rw [HT.out, HD.out])
      clear hO hkm
      by_cases he : endS r e = 0
      · have hd0 : (endS r e != 0) = false := by simp [he]
        have HE := Lib.hid he
        clear he
        cases hv : validS N d
        · have HF := Lib.hid (show decodeS l = ([], 2) by rw [HT2.out, if_pos (.inr hv)])
          go_wp2_with (first
            | (go_at_call 64; refine (rEnd_c _ _ _ _ hR).mono ?_; rintro ee w' ⟨rfl, rfl⟩)
            | (go_at_call 26; refine (valid_c _ _ _ _ _ _ hOd.reads).mono ?_; rintro ee w5 ⟨rfl, hE5⟩))
          go_ret2
          exact RetOwnErr.mk_ HF.out (Own.nil _ _ _ _) (hE.trans hE5)
        · have HF := Lib.hid (show decodeS l = ofS N d by rw [HT2.out, if_neg]; rintro (h1 | h1); exact h1 HE.out; rw [hv] at h1; cases h1)
          go_wp2_with (first
            | (go_at_call 64; refine (rEnd_c _ _ _ _ hR).mono ?_; rintro ee w' ⟨rfl, rfl⟩)
            | (go_at_call 26; refine (valid_c _ _ _ _ _ _ hOd.reads).mono ?_; rintro ee w5 ⟨rfl, hE5⟩)
            | (go_at_call 24; refine (of_c _ _ _ _ _ _ (hOd.reads.e hE5)).mono ?_; rintro ee w6 ⟨A6, n6, c6, rfl, hO6, hE6⟩))
          go_ret2
          exact RetOwnErr.mk_ HF.out (hO6.rebase (by have := hE.le; have := hE5.le; omega)) ((hE.trans hE5).trans hE6)
      · have hd0 : (endS r e != 0) = true := by simpa using he
        have HF := Lib.hid (show decodeS l = ([], 2) by rw [HT2.out, if_pos (.inl he)])
        clear he
        go_wp2_with (go_at_call 64; refine (rEnd_c _ _ _ _ hR).mono ?_; rintro ee w' ⟨rfl, rfl⟩)
        go_ret2
        exact RetOwnErr.mk_ HF.out (Own.nil _ _ _ _) hE
end Go.Proofs.Ytbpfdogjjoceaaa
