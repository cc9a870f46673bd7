/- bytesAre; bags; lives. -/
import Derived.Test.YtbpfdogjjoceaaaM
namespace Go.Proofs.Ytbpfdogjjoceaaa
open Go.RowKit

theorem conv_str {P : Program} {S T D : TypeId} {w : World} {A : Option Addr} {n c : Nat} {l : List Int} (hs : P.underlying S = some (.slice T)) (he : P.underlying T = some (.int .u8)) (hd : P.underlying D = some .string)
    (h : Nums .u8 w A n c l) : (convert S D (.slice A n c)).run P w = .ok (.string (strOfNums l)) w := by
  rcases Nat.eq_zero_or_pos n with h0 | h0
  · subst h0
    have hl : l = [] := List.eq_nil_of_length_eq_zero h.len
    subst hl
    rcases A with _ | ad
    · exact run_convert_bytes_nil w S T hs he 0 c D hd
    · rw [run_convert_bytes_string w S D T _ 0 c hs he hd, run_bytesToString w ad 0 c [] (by simp [loadCells, loadCellsFrom]), foldl_push_bytes]
      rfl
  · obtain ⟨b, o, rfl, _, hc⟩ := h.at_ h0
    refine run_convert_bytes_arg w S T hs he b o n c l h.len (fun i hi => ?_) D hd
    have hi' : i < l.length := by rw [h.len]; exact hi
    rw [hc i hi']
    simp [List.getD, List.getElem?_eq_getElem hi']

theorem ofNat_inj {x y : Int} (hx : 0 ≤ x ∧ x ≤ 255) (hy : 0 ≤ y ∧ y ≤ 255) (h : UInt8.ofNat x.toNat = UInt8.ofNat y.toNat) : x = y := by
  have := congrArg UInt8.toNat h
  simp only [UInt8.toNat_ofNat'] at this
  omega
theorem strOfNums_inj : ∀ {a b : List Int}, (∀ x ∈ a, (Lit.int .u8 x).wf = true) → (∀ x ∈ b, (Lit.int .u8 x).wf = true) → (a.map fun n => UInt8.ofNat n.toNat) = (b.map fun n => UInt8.ofNat n.toNat) → a = b
  | [], [], _, _, _ => rfl
  | [], _ :: _, _, _, h => by simp at h
  | _ :: _, [], _, _, h => by simp at h
  | x :: a, y :: b, ha, hb, h => by
    simp only [List.map_cons, List.cons.injEq] at h
    rw [ofNat_inj (wf_u8 (ha x List.mem_cons_self)) (wf_u8 (hb y List.mem_cons_self)) h.1, strOfNums_inj (fun z hz => ha z (List.mem_cons_of_mem _ hz)) (fun z hz => hb z (List.mem_cons_of_mem _ hz)) h.2]
theorem strOfNums_eq {a b : List Int} (ha : ∀ x ∈ a, (Lit.int .u8 x).wf = true) (hb : ∀ x ∈ b, (Lit.int .u8 x).wf = true) : ((strOfNums a).toList == (strOfNums b).toList) = sameB a b := by
  rw [ByteArray.toList_eq, ByteArray.toList_eq, strOfNums_data, strOfNums_data]
  by_cases h : a = b
  · subst h; simp [sameB]
  · rw [show sameB a b = false by simp [sameB, h]]
    rw [beq_eq_false_iff_ne]
    exact fun hh => h (strOfNums_inj ha hb hh)

set_option maxHeartbeats 400000 in
theorem bytesAre_c (A1 A2 : Option Addr) (n1 c1 n2 c2 : Nat) (l1 l2 : List Int) (w : World) (h1 : Nums .u8 w A1 n1 c1 l1) (h2 : Nums .u8 w A2 n2 c2 l2) :
    Calls Try.prog 40 #[.slice A1 n1 c1, .slice A2 n2 c2] w fun e w' => e = .returned (.bool (sameB l1 l2)) ∧ w = w' := by
  have k1 := conv_str (P := Try.prog) (S := 47) (D := 9) Try.underlying47 Try.underlying5 Try.underlying9 h1
  have k2 := conv_str (P := Try.prog) (S := 47) (D := 9) Try.underlying47 Try.underlying5 Try.underlying9 h2
  have HE := Lib.hid (strOfNums_eq h1.wf h2.wf)
  generalize strOfNums l1 = s1 at *
  generalize strOfNums l2 = s2 at *
  go_enter Try.func40, Try.ntmps40
  go_wp2
  go_ret
  exact ⟨ret_bool HE.out, rfl⟩

/-- a slice of slices of integers -/
structure Mat (w : World) (A : Option Addr) (n c : Nat) (ls : List (List Int)) : Prop where
  len : ls.length = n
  cap : n ≤ c
  mx : c ≤ maxLen
  at_ : 0 < n → ∃ b o, A = some ⟨b, o, none⟩ ∧ b < w.heap.size ∧ ∀ i, (h : i < ls.length) → ∃ A' n' c', w.cell? ⟨b, o + i, none⟩ = some (.slice A' n' c') ∧ Nums .i64 w A' n' c' ls[i]
section
variable {w w' : World} {A : Option Addr} {n c : Nat} {ls : List (List Int)}
theorem Mat.e (h : Mat w A n c ls) (he : E w w') : Mat w' A n c ls :=
  ⟨h.len, h.cap, h.mx, fun hn => by
    obtain ⟨b, o, h1, h2, h3⟩ := h.at_ hn
    refine ⟨b, o, h1, Nat.lt_of_lt_of_le h2 he.le, fun i hi => ?_⟩
    obtain ⟨A', n', c', h4, h5⟩ := h3 i hi
    exact ⟨A', n', c', (he.cell (p := ⟨b, _, none⟩) h2).trans h4, h5.e he⟩⟩
theorem Mat.q (h : Mat w A n c ls) (he : Q w w') : Mat w' A n c ls := h.e (E.of_q he)
theorem Mat.get (h : Mat w A n c ls) {i : Nat} (hi : i < n) :
    ∃ b o A' n' c' l, A = some ⟨b, o, none⟩ ∧ b < w.heap.size ∧ ls[i]? = some l ∧ w.cell? ⟨b, o + i, none⟩ = some (.slice A' n' c') ∧ Nums .i64 w A' n' c' l := by
  obtain ⟨b, o, h1, h2, h3⟩ := h.at_ (by omega)
  have hl : i < ls.length := by rw [h.len]; exact hi
  obtain ⟨A', n', c', h4, h5⟩ := h3 i hl
  exact ⟨b, o, A', n', c', ls[i], h1, h2, List.getElem?_eq_getElem hl, h4, h5⟩
end
def RetMat (w : World) (ls : List (List Int)) (e : Ending) (w' : World) : Prop := ∃ A n c, e = .returned (.slice A n c) ∧ Mat w' A n c ls ∧ E w w'

def bagsC (k : Nat) (l : List Int) (i : Nat) (v : Int) : List Int :=
  let c := bagL k l 1
  if i < k then c.set i v else if i = 10 then c ++ [1] else c
def bagsS (n : Int) (l : List Int) (p v : Int) : List (List Int) :=
  let k := (n % 8).toNat
  [bagL k l 0, bagL k l 3, bagsC k l (p % 12).toNat v]

theorem mat3 {w : World} {g : Nat} {T : TypeId} {fr : Nat × Nat} {A1 A2 A3 : Option Addr} {n1 c1 n2 c2 n3 c3 : Nat} {l1 l2 l3 : List Int} (hb : w.heap[g]? = some (.cells #[.slice A1 n1 c1, .slice A2 n2 c2, .slice A3 n3 c3] T fr))
    (h1 : Nums .i64 w A1 n1 c1 l1) (h2 : Nums .i64 w A2 n2 c2 l2) (h3 : Nums .i64 w A3 n3 c3 l3) : Mat w (some ⟨g, 0, none⟩) 3 3 [l1, l2, l3] := by
  refine ⟨rfl, Nat.le_refl _, by unfold maxLen; omega, fun _ => ⟨g, 0, rfl, blk_lt hb, fun i hi => ?_⟩⟩
  have hc := fun j => cell_of_row _ g j _ _ _ hb
  match i, hi with
  | 0, _ => exact ⟨_, _, _, hc 0, h1⟩
  | 1, _ => exact ⟨_, _, _, hc 1, h2⟩
  | 2, _ => exact ⟨_, _, _, hc 2, h3⟩

theorem retMat3 {w W : World} {g : Nat} {T : TypeId} {A1 A2 A3 : Option Addr} {n1 c1 n2 c2 n3 c3 : Nat} {l1 l2 l3 : List Int} {r : List (List Int)} (hg : W.heap.size = g) (hE : E w W)
    (h1 : Nums .i64 W A1 n1 c1 l1) (h2 : Nums .i64 W A2 n2 c2 l2) (h3 : Nums .i64 W A3 n3 c3 l3) (hr : r = [l1, l2, l3]) :
    RetMat w r (.returned (.slice (some ⟨g, 0, none⟩) 3 3)) (W.alloc (.cells #[.slice A1 n1 c1, .slice A2 n2 c2, .slice A3 n3 c3] T)) := by
  subst hg
  have hE' := (E.refl W).alloc (.cells #[.slice A1 n1 c1, .slice A2 n2 c2, .slice A3 n3 c3] T)
  exact ⟨_, _, _, rfl, hr ▸ mat3 (heap_alloc_new W _) (h1.e hE') (h2.e hE') (h3.e hE'), hE.trans hE'⟩

set_option maxHeartbeats 1000000 in
theorem bags_c (N p v : Int) (A : Option Addr) (n c : Nat) (l : List Int) (w : World) (h : Nums .i64 w A n c l) (hN1 : -9223372036854775808 ≤ N) (hN2 : N ≤ 9223372036854775807) (hp1 : -9223372036854775808 ≤ p) (hp2 : p ≤ 9223372036854775807) (hv : (Lit.int .i64 v).wf = true) :
    Calls Try.prog 12 #[.int .i64 N, .slice A n c, .int .i64 p, .int .i64 v] w (RetMat w (bagsS N l p v)) := by
  obtain ⟨k, hk⟩ : ∃ k : Nat, N % 8 = k := ⟨(N % 8).toNat, by omega⟩
  obtain ⟨i, hi⟩ : ∃ i : Nat, p % 12 = i := ⟨(p % 12).toNat, by omega⟩
  have hk8 : k < 8 := by omega
  have hi12 : i < 12 := by omega
  have HS := Lib.hid (show bagsS N l p v = [bagL k l 0, bagL k l 3, bagsC k l i v] by simp [bagsS, hk, hi])
  have HK := Lib.hid hk
  have HI := Lib.hid hi
  clear hk hi
  go_enter Try.func12, Try.ntmps12
  go_wp2_with fail
  refine (around_c N 8 _ hN1 hN2 (by omega) (by omega)).mono ?_
  rintro e w' ⟨rfl, rfl⟩
  rw [HK.out]
  go_wp2_with fail
  refine (bag_c k 0 _ _ _ _ _ h (by omega) (by omega)).mono ?_
  rintro e w1 ⟨A1, n1, c1, rfl, hO1, hE1⟩
  replace h := h.e hE1
  go_wp2_with fail
  refine (bag_c k 3 _ _ _ _ _ h (by omega) (by omega)).mono ?_
  rintro e w2 ⟨A2, n2, c2, rfl, hO2, hE2⟩
  replace h := h.e hE2
  go_wp2_with fail
  refine (bag_c k 1 _ _ _ _ _ h (by omega) (by omega)).mono ?_
  rintro e w3 ⟨A3, n3, c3, rfl, hO3, hE3⟩
  replace h := h.e hE3
  go_wp2_with fail
  refine (around_c p 12 _ hp1 hp2 (by omega) (by omega)).mono ?_
  rintro e w' ⟨rfl, rfl⟩
  rw [HI.out]
  have r1 := (hO1.reads.e hE2).e hE3
  have r2 := hO2.reads.e hE3
  have hE := (hE1.trans hE2).trans hE3
  have hn3 : n3 = k := by rw [← hO3.1, bagL_len]
  have HN3 := Lib.hid hn3
  clear hn3
  by_cases hlt : (i : Int) < (k : Int)
  · obtain ⟨g, x, rfl, hg1, hg2, hx, hwx, hcx, hfx⟩ := hO3.get (i := i) (by rw [HN3.out]; omega)
    have h10 : ((i : Int) == 10) = false := by simp; omega
    have hn3' : (i : Int) < (n3 : Int) := by rw [HN3.out]; exact hlt
    have HO4 := Lib.hid (hO3.set i v hv)
    have HE4 := Lib.hid ((E.refl w2).up (hE3.setCell (p := ⟨g, i, none⟩) hg1 (.int .i64 v)))
    clear hx hwx
    go_wp2
    go_ret
    exact retMat3 (W := w3.setCell ⟨g, i, none⟩ (.int .i64 v)) (by simp) ((hE1.trans hE2).trans HE4.out) ((hO1.reads.e hE2).e HE4.out) (hO2.reads.e HE4.out) HO4.out.reads (by rw [HS.out]; simp [bagsC, show i < k by omega])
  · by_cases h10 : i = 10
    · have h10b : ((i : Int) == 10) = true := by simp; omega
      have HC := Lib.hid (show bagsC k l i v = bagL k l 1 ++ [1] by unfold bagsC; simp only; rw [if_neg (by omega), if_pos h10])
      have HI10 := Lib.hid h10
      have hle := hE3.le
      clear h10
      have hn3' : n3 ≤ 8 := by rw [HN3.out]; omega
      go_wp2_with (at_builtin; refine wpList_app1n intT _ rfl _ _ rfl _ _ _ _ _ rfl hO3 _ rfl (wf_of_i64 (by omega) (by omega)) (by omega) hle ?_; intro g' c4 w4 hO4 hG4 hB4 hor)
      go_ret
      have hE4 := hE3.up hB4
      exact retMat3 rfl ((hE1.trans hE2).trans hE4) ((hO1.reads.e hE2).e hE4) (hO2.reads.e hE4) hO4.reads (by rw [HS.out, HC.out])
    · have h10b : ((i : Int) == 10) = false := by simp; omega
      have HC := Lib.hid (show bagsC k l i v = bagL k l 1 by simp [bagsC, show ¬ i < k by omega, h10])
      clear h10
      go_wp2
      go_ret
      exact retMat3 rfl hE r1 r2 hO3.reads (by rw [HS.out, HC.out])
end Go.Proofs.Ytbpfdogjjoceaaa
