/- The laws' indices and touch. -/
import Derived.Test.YtpbkfpkgbfifaaaKGn
import Derived.Test.YtpbkfpkgbfifaaaKT
import Derived.Test.YtpbkfpkgbfifaaaCV
import Derived.Test.YtpbkfpkgbfifaaaKFb
namespace Go.Proofs.Ytpbkfpkgbfifaaa
open Go.RowKit

theorem Nums.take_ {k : IntKind} {w : World} {A : Option Addr} {n c m : Nat} {l : List Int} (h : Nums k w A n c l) (hm : m ≤ n) : Nums k w A m c (l.take m) :=
  ⟨by rw [List.length_take, h.len]; omega, by have := h.cap; omega, h.mx, fun x hx => h.wf x (List.mem_of_mem_take hx), fun h0 => by
    obtain ⟨b, o, e, hb, hc⟩ := h.at_ (by omega)
    refine ⟨b, o, e, hb, fun i hi => ?_⟩
    rw [hc i (by rw [List.length_take] at hi; omega), List.getElem_take]⟩
theorem Nums.drop_ {k : IntKind} {w : World} {b o n c m : Nat} {l : List Int} (h : Nums k w (some ⟨b, o, none⟩) n c l) (hm : m < n) : Nums k w (some ⟨b, o + m, none⟩) (n - m) (c - m) (l.drop m) :=
  ⟨by rw [List.length_drop, h.len], by have := h.cap; omega, by have := h.mx; omega, fun x hx => h.wf x (List.mem_of_mem_drop hx), fun h0 => by
    obtain ⟨b', o', e, hb, hc⟩ := h.at_ (by omega)
    injection e with e
    injection e with e e'
    subst e e'
    refine ⟨b, o + m, rfl, hb, fun i hi => ?_⟩
    rw [Nat.add_assoc, hc (m + i) (by rw [List.length_drop] at hi; omega), List.getElem_drop]⟩
theorem lotsOk_srt {n : Nat} : ∀ (c : List Nat) (last : Int), (∀ j ∈ c, last < (j : Int)) → c.Pairwise (· < ·) → (∀ j ∈ c, j < n) → lotsOk n last (ints c) = true
  | [], _, _, _, _ => rfl
  | x :: c, last, h1, h2, h3 => by
    rw [List.pairwise_cons] at h2
    simp only [ints, List.map_cons, lotsOk, Bool.and_eq_true, decide_eq_true_eq]
    exact ⟨⟨h1 x List.mem_cons_self, by have := h3 x List.mem_cons_self; omega⟩, lotsOk_srt c x (fun j hj => by have := h2.1 j hj; omega) h2.2 fun j hj => h3 j (List.mem_cons_of_mem _ hj)⟩
theorem toN_ints (c : List Nat) : toN (ints c) = c := by
  rw [toN, ints, List.map_map]
  conv => rhs; rw [← List.map_id c]
  apply List.map_congr_left
  intro x _
  simp
theorem feasZ_srt {l : List Bd} {c : List Nat} (h1 : c.Pairwise (· < ·)) (h2 : ∀ j ∈ c, j < l.length) : feasZ l (ints c) = apartB l c := by
  rw [feasZ, toN_ints, lotsOk_srt c (-1) (fun j _ => by omega) h1 h2, Bool.true_and]
theorem contains_ints (g : List Nat) (x : Nat) : (ints g).contains (x : Int) = g.contains x := by
  rw [Bool.eq_iff_iff]
  simp only [List.contains_iff_mem, ints, List.mem_map]
  constructor
  · rintro ⟨y, hy, e⟩; have : y = x := by omega
    subst this; exact hy
  · intro h; exact ⟨x, h, rfl⟩
theorem rows_get {w : World} {A : Option Addr} {n c : Nat} {P : List (List Nat)} (h : RowsAt w A n c (P.map ints)) {i : Nat} (hi : i < n) : ∃ b o g A' n' c', A = some ⟨b, o, none⟩ ∧ b < w.heap.size ∧ P[i]? = some g ∧ w.cell? ⟨b, o + i, none⟩ = some (.slice A' n' c') ∧ Nums .i64 w A' n' c' (ints g) := by
  obtain ⟨b, o, x, A', n', c', e, hb, hx, hc, hN⟩ := h.get hi
  rw [List.getElem?_map] at hx
  obtain ⟨g, hg, rfl⟩ := Option.map_eq_some_iff.1 hx
  exact ⟨b, o, g, A', n', c', e, hb, hg, hc, hN⟩
set_option maxHeartbeats 2000000 in
theorem indices_c (A : Option Addr) (n c : Nat) (g : List Nat) (m : Nat) (w : World) (h : Nums .i64 w A n c (ints g)) (hg : ∀ x ∈ g, x < m) :
    Calls Try.prog 26 #[.slice A n c, .int .i64 m] w (RetK w true) := by
  have hn := h.n63
  go_enter Try.func26, Try.ntmps26
  go_wp2_with fail
  go_loopw [5] (fun ti wr => ∃ i : Nat, i ≤ n ∧ ti = .int .i64 i ∧ Q w wr) (fun ti _ => n - (intOf ti).toNat)
  case atStart => exact ⟨0, Nat.zero_le _, rfl, Q.refl _⟩
  case round =>
    obtain ⟨i, hi, rfl, hq⟩ := hrel
    by_cases hil : (i : Int) < (n : Int)
    · obtain ⟨b, o, x, rfl, hb, hx, hwx, hcx⟩ := (h.q hq).get (i := i) (by omega)
      obtain ⟨y, hy, hym⟩ : ∃ y : Nat, (y : Int) = x ∧ y < m := by
        have : x ∈ ints g := List.mem_of_getElem? hx
        obtain ⟨y, hy, rfl⟩ := List.mem_map.1 this
        exact ⟨y, rfl, hg y hy⟩
      subst hy
      clear hx hwx
      have hyI : (y : Int) < (m : Int) := by omega
      go_wp2_with fail
      go_roundw
      case rel => exact ⟨i + 1, by omega, by go_num, hq⟩
      case measure => simp [intOf]; omega
    · go_wp2_with fail
      go_ret
      exact ⟨rfl, E.of_q hq⟩
theorem touch_in {l : List Bd} {a b : List Nat} {i : Nat} {x : Nat} (ha : a[i]? = some x) : touchB l (a.drop i) b = ((b.any fun y => confl (l.getD x bd0) (l.getD y bd0)) || touchB l (a.drop (i + 1)) b) := by
  unfold touchB; rw [drop_at ha]; rfl
set_option maxHeartbeats 4000000 in
set_option maxRecDepth 100000 in
theorem touch_c (A : Option Addr) (n c : Nat) (l : List Bd) (A1 A2 : Option Addr) (n1 c1 n2 c2 : Nat) (a b : List Nat) (w : World) (h : BidsAt w A n c l) (h1 : Nums .i64 w A1 n1 c1 (ints a)) (h2 : Nums .i64 w A2 n2 c2 (ints b)) (ha : ∀ x ∈ a, x < n) (hb : ∀ x ∈ b, x < n) :
    Calls Try.prog 37 #[.slice A n c, .slice A1 n1 c1, .slice A2 n2 c2] w (RetK w (touchB l a b)) := by
  have hn1 := h1.n63
  have hn2 := h2.n63
  have hl := h.len
  have HL1 := Lib.hid (show a.length = n1 by rw [← ints_len]; exact h1.len)
  have HL2 := Lib.hid (show b.length = n2 by rw [← ints_len]; exact h2.len)
  obtain ⟨fin, hfin⟩ : ∃ fin, touchB l a b = fin := ⟨_, rfl⟩
  have HF := Lib.hid hfin
  rw [hfin]
  clear hfin
  go_enter Try.func37, Try.ntmps37
  go_wp2_with fail
  go_loopw [7] (fun ti wr => ∃ i : Nat, i ≤ n1 ∧ ti = .int .i64 i ∧ E w wr ∧ Hid (touchB l (a.drop i) b = fin)) (fun ti _ => n1 - (intOf ti).toNat)
  case atStart => exact ⟨0, Nat.zero_le _, rfl, E.refl _, HF.out⟩
  case round =>
    obtain ⟨i, hi, rfl, hE, hinv⟩ := hrel
    by_cases hil : (i : Int) < (n1 : Int)
    · obtain ⟨bx, ox, x, rfl, hbx, hx, hwx, hcx⟩ := h1.get (i := i) (by omega)
      obtain ⟨xa, hxa, rfl⟩ : ∃ xa : Nat, a[i]? = some xa ∧ (xa : Int) = x := by
        rw [ints, List.getElem?_map] at hx
        cases e : a[i]? with
        | none => rw [e] at hx; simp at hx
        | some z => rw [e] at hx; exact ⟨z, rfl, by simpa using hx⟩
      have hxn := ha xa (List.mem_of_getElem? hxa)
      obtain ⟨bb, o, xx, Ax, nx, cx, rfl, hbb, hxx, hv1, hv2, hNx, hcs⟩ := h.item hxn
      have hgx : l.getD xa bd0 = xx := by rw [List.getD_eq_getElem?_getD, hxx]; rfl
      have HI := Lib.hid (show ((b.any fun y => confl xx (l.getD y bd0)) || touchB l (a.drop (i + 1)) b) = fin by rw [← hinv.out, touch_in hxa, hgx])
      clear hx hwx hxx hinv hxa
      go_wp2_with fail
      go_loopw [8] (fun ti wr => ∃ k : Nat, k ≤ n2 ∧ ti = .int .i64 k ∧ E w wr ∧ Hid (((b.drop k).any fun y => confl xx (l.getD y bd0)) = b.any fun y => confl xx (l.getD y bd0))) (fun ti _ => n2 - (intOf ti).toNat)
      case atStart => exact ⟨0, Nat.zero_le _, rfl, hE, rfl⟩
      case round =>
        clear hE
        obtain ⟨k, hk, rfl, hE, hin2⟩ := hrel
        by_cases hkl : (k : Int) < (n2 : Int)
        · obtain ⟨by', oy, y, rfl, hby, hy, hwy, hcy⟩ := h2.get (i := k) (by omega)
          obtain ⟨yb, hyb, rfl⟩ : ∃ yb : Nat, b[k]? = some yb ∧ (yb : Int) = y := by
            rw [ints, List.getElem?_map] at hy
            cases e : b[k]? with
            | none => rw [e] at hy; simp at hy
            | some z => rw [e] at hy; exact ⟨z, rfl, by simpa using hy⟩
          have hyn := hb yb (List.mem_of_getElem? hyb)
          obtain ⟨bb', o', yy, Ay, ny, cy, e3, hbb', hyy, hu1, hu2, hNy, hds⟩ := h.item hyn
          injection e3 with e3
          injection e3 with e3 e4
          subst e3 e4
          have hgy : l.getD yb bd0 = yy := by rw [List.getD_eq_getElem?_getD, hyy]; rfl
          have HD := Lib.hid (show (confl xx yy || (b.drop (k + 1)).any fun y => confl xx (l.getD y bd0)) = b.any fun y => confl xx (l.getD y bd0) by rw [← hin2.out, drop_at hyb, List.any_cons, hgy])
          have hcxr := (hE.cell (p := ⟨bx, ox + i, none⟩) hbx).trans hcx
          have hcyr := (hE.cell (p := ⟨by', oy + k, none⟩) hby).trans hcy
          obtain ⟨p1, p2, p3⟩ := hcs wr hE
          obtain ⟨q1, q2, q3⟩ := hds wr hE
          have HC := Lib.hid (fun W (hW : E wr W) => conflict_c xx yy Ax Ay nx cx ny cy W ((hNx.e hE).e hW) ((hNy.e hE).e hW))
          unfold bdV at HC
          have hxI : (xa : Int) < (n : Int) := by omega
          have hyI : (yb : Int) < (n : Int) := by omega
          clear hy hwy hyy hin2 hyb
          generalize hcf : confl xx yy = cf at HC HD
          clear hcf
          obtain ⟨xxb, xxp, xxl⟩ := xx
          obtain ⟨yyb, yyp, yyl⟩ := yy
          simp only at *
          cases cf
          · have HN := Lib.hid (show ((b.drop (k + 1)).any fun y => confl (xxb, xxp, xxl) (l.getD y bd0)) = b.any fun y => confl (xxb, xxp, xxl) (l.getD y bd0) by rw [← HD.out]; rfl)
            clear HD
            go_wp2_with fail
            go_still_tail 14, (by kernel_rfl)
            go_wp2_with fail
            refine (HC.out _ ((E.refl wr).drew)).mono ?_
            rintro e w1 ⟨rfl, hE1⟩
            go_wp2_with fail
            exact ⟨⟨k + 1, by omega, by go_num, (hE.trans ((E.refl wr).drew)).trans hE1, HN.out⟩, by simp [intOf]; omega⟩
          · have HR := Lib.hid (show fin = true by rw [← HI.out, ← HD.out]; rfl)
            clear HD
            go_wp2_with fail
            go_still_tail 14, (by kernel_rfl)
            go_wp2_with fail
            refine (HC.out _ ((E.refl wr).drew)).mono ?_
            rintro e w1 ⟨rfl, hE1⟩
            go_wp2_with fail
            go_ret
            exact ⟨ret_bool HR.out.symm, (hE.trans ((E.refl wr).drew)).trans hE1⟩
        · have HN := Lib.hid (show touchB l (a.drop (i + 1)) b = fin by
            rw [← HI.out, ← hin2.out, show b.drop k = [] from List.drop_eq_nil_of_le (by have := HL2.out; omega)]; simp)
          go_wp2_with fail
          exact ⟨⟨i + 1, by omega, by go_num, hE, HN.out⟩, by simp [intOf]; omega⟩
    · have HR := Lib.hid (show fin = false by rw [← hinv.out, List.drop_eq_nil_of_le (by have := HL1.out; omega)]; rfl)
      go_wp2_with fail
      go_ret
      exact ⟨ret_bool HR.out.symm, hE⟩
end Go.Proofs.Ytpbkfpkgbfifaaa
