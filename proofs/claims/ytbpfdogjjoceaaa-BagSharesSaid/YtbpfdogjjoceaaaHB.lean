/- hash.Sum. -/
import Derived.Test.YtbpfdogjjoceaaaHA
import Derived.RangeFuncBox
import Derived.Lib.ConvBytes
namespace Go.Proofs.Ytbpfdogjjoceaaa
open Go.RowKit Go.Shelf
attribute [local go_sem] Oper.semAt_some

def bytS (s : ByteArray) : List Int := s.data.toList.map (fun b => (b.toNat : Int))
theorem bytS_len (s : ByteArray) : (bytS s).length = s.size := by simp [bytS]
def sumS (s : ByteArray) (l : List Int) : Int := mixV ((l.map IntKind.u64.wrap).foldl mixV (mixV (mixV ((wordsL (bytS s)).foldl mixV 0) s.size) (IntKind.u64.wrap l.length))) 0
theorem bytesWorld_e (w : World) (e : TypeId) (s : ByteArray) : E w (Lib.bytesWorld w e s) := by
  refine ⟨?_, ?_, ?_, ?_, ?_⟩
  · simp [Lib.bytesWorld, World.freeze, World.alloc, World.drew, -World.alloc_eq, -World.drew_eq]
  · simp [Lib.bytesWorld, World.freeze, World.alloc, World.drew, -World.alloc_eq, -World.drew_eq]
  · simp [Lib.bytesWorld, World.freeze, World.alloc, World.drew, -World.alloc_eq, -World.drew_eq]
  · rw [Lib.bytesWorld_size]; omega
  · intro b hb; exact Lib.bytesWorld_at_old w e s b hb
theorem bytesWorld_nums (w : World) (e : TypeId) (s : ByteArray) (hs : s.size ≤ 1000) : Nums .u8 (Lib.bytesWorld w e s) (some ⟨w.heap.size, 0, none⟩) s.size (grownCap w s.size 0 e) (bytS s) := by
  refine ⟨bytS_len s, grownCap_ge w _ _ _, grownCap_le_maxLen w _ _ _ (by unfold maxLen; omega), fun x hx => ?_, fun _ => ⟨_, 0, rfl, by rw [Lib.bytesWorld_size]; omega, fun i hi => ?_⟩⟩
  · obtain ⟨b, _, rfl⟩ := List.mem_map.1 hx
    have := b.toNat_lt
    exact WalkArith.wf_u8 ⟨by omega, by omega⟩
  · rw [bytS_len] at hi
    rw [Nat.zero_add, Lib.bytesWorld_cell w e s i hi]
    have : i < s.data.toList.length := by simpa using hi
    simp [bytS, List.getD_eq_getElem?_getD, List.getElem?_eq_getElem this]

theorem box_new (W : World) (v : Value) (t : TypeId) : (W.alloc (.cells #[v] t)).cell? ⟨W.heap.size, 0, none⟩ = some v ∧ (W.alloc (.cells #[v] t)).frozen? ⟨W.heap.size, 0, none⟩ = false := by
  have h := World.alloc_heap_new W (.cells #[v] t)
  constructor
  · unfold World.cell?; dsimp only; rw [h]; rfl
  · unfold World.frozen?; dsimp only; rw [h]; rfl
theorem K2.put {b c : Nat} (W : World) (l : Nat) (o' : Obj) (hb : b ≠ l) (hc : c ≠ l) : K2 b c W (W.putObj l o') := ⟨World.putObj_heap_other hb, World.putObj_heap_other hc⟩
theorem K2.set {b c : Nat} (W : World) (a : Addr) (v : Value) (hb : b ≠ a.block) (hc : c ≠ a.block) : K2 b c W (W.setCell a v) := ⟨Below.heap_setCell _ _ _ _ hb, Below.heap_setCell _ _ _ _ hc⟩
theorem blkOf_cases (b n Bs : Nat) : blkOf (some ⟨b, 0, none⟩) n Bs = Bs ∨ blkOf (some ⟨b, 0, none⟩) n Bs = b := by
  unfold blkOf
  split
  · exact .inl rfl
  · exact .inr rfl

set_option maxRecDepth 100000 in
set_option maxHeartbeats 2000000 in
theorem sum_in (F : Fence) (hro : F.round = none) (f1 : F.fn 77) (f2 : F.fn 76) (f3 : F.fn 90) (f4 : F.fn 91) (hmix : ∀ k a b W, CallsIn F k Try.prog 91 #[.int .u64 a, .int .u64 b] W fun e w' => e = .returned (.int .u64 (mixV a b)) ∧ W = w') (n : Nat) (hn : 3 ≤ n) (s : ByteArray) (hs : s.size ≤ 1000) (A : Option Addr) (m c : Nat) (l : List Int) (w : World) (h : Nums .i64 w A m c l) :
    CallsIn F n Try.prog 77 #[.string s, .slice A m c] w fun e W' => e = .returned (.int .u64 (sumS s l)) ∧ E w W' := by
  have hn1 : 1 ≤ n := by omega
  have hn2 : 1 ≤ n - 1 - 1 := by omega
  have hcv := Lib.run_convert_string_bytes (P := Try.prog) (w.alloc (.cells #[.int .u64 0] 59)) 9 47 5 s (by exact Try.underlying9) (by exact Try.underlying47) (by exact Try.underlying5)
  have hE1 : E w (w.alloc (.cells #[.int .u64 0] 59)) := (E.refl w).alloc _
  have hN2 := bytesWorld_nums (w.alloc (.cells #[.int .u64 0] 59)) 5 s hs
  have hE2 := bytesWorld_e (w.alloc (.cells #[.int .u64 0] 59)) 5 s
  have hS2 := Lib.bytesWorld_size (w.alloc (.cells #[.int .u64 0] 59)) 5 s
  rw [World.size_alloc] at hcv hN2 hS2
  generalize grownCap (w.alloc (.cells #[.int .u64 0] 59)) s.size 0 5 = cc at *
  generalize Lib.bytesWorld (w.alloc (.cells #[.int .u64 0] 59)) 5 s = w2 at *
  refine callsIn_of_wp_marks Try.func77 rfl f1 ?_ hro
  simp only [Try.ntmps77, List.size_toArray, List.length_cons, List.length_nil, Nat.reduceAdd, Nat.reduceSub, Array.replicate_succ, Array.replicate_zero, List.push_toArray, List.append_toArray, List.nil_append, List.cons_append]
  gi_wp2_with (gi_at_call 76; refine (wordsOf_in F (n - 1) f2 hro _ _ _ _).mono ?_; rintro e w' ⟨rfl, rfl⟩)
  have hb0 := box_new w (.int .u64 0) 59
  have hc2 : w2.cell? ⟨w.heap.size, 0, none⟩ = some (.int .u64 0) := (hE2.cell (p := ⟨w.heap.size, 0, none⟩) (by simp)).trans hb0.1
  have hf2 : w2.frozen? ⟨w.heap.size, 0, none⟩ = false := (Below.frozen hE2 (p := ⟨w.heap.size, 0, none⟩) (by simp)).trans hb0.2
  have hb3 := box_new w2 (.slice (some ⟨w.heap.size + 1, 0, none⟩) s.size cc) 47
  rw [hS2] at hb3
  have hE23 : E w2 (w2.alloc (.cells #[.slice (some ⟨w.heap.size + 1, 0, none⟩) s.size cc] 47)) := (E.refl _).alloc _
  have hS3 : (w2.alloc (.cells #[.slice (some ⟨w.heap.size + 1, 0, none⟩) s.size cc] 47)).heap.size = w.heap.size + 1 + 1 + 1 := by rw [World.size_alloc, hS2]
  have hN3 := hN2.e hE23
  have hc3 := (hE23.cell (p := ⟨w.heap.size, 0, none⟩) (by show w.heap.size < w2.heap.size; omega)).trans hc2
  have hf3 := (Below.frozen hE23 (p := ⟨w.heap.size, 0, none⟩) (by show w.heap.size < w2.heap.size; omega)).trans hf2
  have hE3 : E w _ := (hE1.trans hE2).trans hE23
  have hbox := hb3.1
  clear hcv hE1 hN2 hE2 hb0 hc2 hf2 hb3 hE23 hS2
  generalize w2.alloc (.cells #[.slice (some ⟨w.heap.size + 1, 0, none⟩) s.size cc] 47) = w3 at *
  have hblk : blkOf (some ⟨w.heap.size + 1, 0, none⟩) s.size (w.heap.size + 1 + 1) ≠ w.heap.size ∧ blkOf (some ⟨w.heap.size + 1, 0, none⟩) s.size (w.heap.size + 1 + 1) < w3.heap.size := by
    rcases blkOf_cases (w.heap.size + 1) s.size (w.heap.size + 1 + 1) with e | e <;> rw [e, hS3] <;> omega
  refine wpIn_rangeFunc_ownF hro hn1 (gf := 90) (lb := #[.pointer (some ⟨w.heap.size + 1 + 1, 0, none⟩)]) rfl f3 (enters_of Try.func90 (by kernel_rfl) rfl)
    (words_stops F (n - 1) f3 hro (by omega) (w.heap.size + 1 + 1) _ s.size cc (bytS s) (by omega) w3 (by omega) hbox hN3) K2.trans (fun W l o o' hl _ _ _ => K2.put W l o' (by omega) (by omega)) (Below.refl _ _) (fun _ => rfl)
    (fun pre W => (W.cell? ⟨w.heap.size, 0, none⟩ = some (.int .u64 (pre.foldl mixV 0)) ∧ W.frozen? ⟨w.heap.size, 0, none⟩ = false) ∧ Below w.heap.size w W)
    (fun _ _ _ => False)
    (OwnFrom.and (Go.Own.from (fun s A B row hs hg hr => ⟨cell_kept hs.1 hg hr, (frozen_kept hs.1 hg hr).trans hs.2⟩) _) (ownFrom_below (Nat.le_refl _) (by omega)))
    (fun _ _ _ _ _ hs _ _ => hs)
    ⟨⟨hc3, hf3⟩, hE3⟩
    (fun x => { tmps := #[.string s, .slice A m c, undef, undef, .int .u64 0, .pointer (some ⟨w.heap.size, 0, none⟩), .int .u64 x, undef, undef, .string s, .slice (some ⟨w.heap.size + 1, 0, none⟩) s.size cc, .func (.func 90) #[] #[.pointer (some ⟨w.heap.size + 1 + 1, 0, none⟩)], .int .u64 x, undef, undef, undef, undef, undef, undef, undef, undef, undef, undef, undef, undef, undef, undef, undef, undef, undef, undef, undef, undef, undef, undef, undef, undef, undef, undef], defers := [] }) ?assign ?body ?done ?stop
  case assign =>
    intro ℓ x W K hK
    gi_wp2
    exact hK
  case body =>
    rintro ℓ pre x W ⟨⟨hc, hf⟩, hB⟩ _
    gi_wp2_with (gi_at_call 91; refine (CallsIn.inRound ℓ (hmix _ _ _ _)).mono ?_; rintro e w' ⟨rfl, rfl⟩)
    exact ⟨KeepsOthers.setCell _ _ _, K2.set W ⟨w.heap.size, 0, none⟩ _ hblk.1 (by show w.heap.size + 1 + 1 ≠ w.heap.size; omega), ⟨by rw [List.foldl_append]; exact World.cell?_setCell_same' _ _ _ (by rw [hc]; rfl), by rw [World.frozen?_setCell]; exact hf⟩, hB.setCell (p := ⟨w.heap.size, 0, none⟩) (Nat.le_refl _) _⟩
  case done =>
    rintro D ys W hD rfl ⟨⟨hc, hf⟩, hB⟩ hK
    gi_wp2_with (gi_at_call 91; refine (hmix _ _ _ _).mono ?_; rintro e w' ⟨rfl, rfl⟩)
    obtain ⟨st, hst⟩ : ∃ st, mixV (mixV (List.foldl mixV 0 (wordsL (bytS s))) ↑s.size) (IntKind.u64.wrap ↑m) = st := ⟨_, rfl⟩
    have HS := Lib.hid (show sumS s l = mixV ((l.map IntKind.u64.wrap).foldl mixV st) 0 by rw [sumS, h.len, hst])
    rw [hst]
    have hcB := World.cell?_setCell_same' (W.setCell ⟨w.heap.size, 0, none⟩ (.int .u64 (mixV (List.foldl mixV 0 (wordsL (bytS s))) ↑s.size))) ⟨w.heap.size, 0, none⟩ (.int .u64 st) (by rw [World.cell?_setCell_same' _ _ _ (by rw [hc]; rfl)]; rfl)
    have hfB : ((W.setCell ⟨w.heap.size, 0, none⟩ (.int .u64 (mixV (List.foldl mixV 0 (wordsL (bytS s))) ↑s.size))).setCell ⟨w.heap.size, 0, none⟩ (.int .u64 st)).frozen? ⟨w.heap.size, 0, none⟩ = false := by rw [World.frozen?_setCell, World.frozen?_setCell]; exact hf
    have hKB := (KeepsOthers.setCell _ ⟨w.heap.size, 0, none⟩ (.int .u64 st)).same D _ ((KeepsOthers.setCell W ⟨w.heap.size, 0, none⟩ (.int .u64 (mixV (List.foldl mixV 0 (wordsL (bytS s))) ↑s.size))).same D _ hK rfl) rfl
    have hEB : Below w.heap.size w _ := (hB.setCell (p := ⟨w.heap.size, 0, none⟩) (Nat.le_refl _) (.int .u64 (mixV (List.foldl mixV 0 (wordsL (bytS s))) ↑s.size))).setCell (p := ⟨w.heap.size, 0, none⟩) (Nat.le_refl _) (.int .u64 st)
    clear hc hf hK hB
    generalize ((W.setCell ⟨w.heap.size, 0, none⟩ (.int .u64 (mixV (List.foldl mixV 0 (wordsL (bytS s))) ↑s.size))).setCell ⟨w.heap.size, 0, none⟩ (.int .u64 st)) = wB at *
    obtain ⟨R, hRd⟩ : ∃ R, sumS s l = R := ⟨_, rfl⟩
    rw [hRd] at HS
    have HRd := Lib.hid hRd
    clear hRd
    gi_loopw [28] (fun ti wr => ∃ (k : Nat) (acc : Int), k ≤ m ∧ ti = .int .i64 k ∧ wr.cell? ⟨w.heap.size, 0, none⟩ = some (.int .u64 acc) ∧ wr.frozen? ⟨w.heap.size, 0, none⟩ = false ∧ wr.heap[D]? = some (.deferred (some [])) ∧ Below w.heap.size w wr ∧ Hid (R = mixV (((l.drop k).map IntKind.u64.wrap).foldl mixV acc) 0)) (fun ti _ => m - (intOf ti).toNat)
    case atStart => exact ⟨0, st, Nat.zero_le _, rfl, hcB, hfB, hKB, hEB, show _ = _ from HS.out⟩
    case round =>
      clear hcB hfB hKB hEB
      obtain ⟨k, acc, hk, rfl, hc, hf, hK, hB, hR⟩ := hrel
      have hNw := h.e hB
      have hm63 := h.n63
      by_cases hkm : k < m
      · obtain ⟨b, o, rfl, hbl, hcs⟩ := hNw.at_ (by omega)
        obtain ⟨x, hx⟩ : ∃ x, l[k]? = some x := ⟨l[k]'(by rw [h.len]; omega), List.getElem?_eq_getElem (by rw [h.len]; omega)⟩
        have hcx : wr.cell? ⟨b, o + k, none⟩ = some (.int .i64 x) := by
          obtain ⟨hj, rfl⟩ := List.getElem?_eq_some_iff.1 hx
          exact hcs k hj
        have HD := Lib.hid (drop_at hx)
        have hkI : (k : Int) < (m : Int) := by omega
        clear hcs hx
        gi_wp2_with (gi_at_call 91; refine (hmix _ _ _ _).mono ?_; rintro e w' ⟨rfl, rfl⟩)
        go_roundw
        case rel => exact ⟨k + 1, _, by omega, by go_num, World.cell?_setCell_same' _ _ _ (by rw [hc]; rfl), by rw [World.frozen?_setCell]; exact hf, (KeepsOthers.setCell _ _ _).same D _ hK rfl, hB.setCell (p := ⟨w.heap.size, 0, none⟩) (Nat.le_refl _) _, show _ = _ by rw [hR.out, HD.out]; rfl⟩
        case measure => simp [intOf]; omega
      · have hRe : R = mixV acc 0 := by rw [hR.out, List.drop_eq_nil_of_le (by rw [h.len]; omega)]; rfl
        have HR := Lib.hid hRe
        clear hRe hR
        have hkI : ¬ (k : Int) < (m : Int) := by omega
        gi_wp2_with (gi_at_call 91; refine (hmix _ _ _ _).mono ?_; rintro e w' ⟨rfl, rfl⟩)
        refine ⟨by simp, .inl ⟨_, _, rfl, run_takeDeferred hK, ?_⟩⟩
        exact ⟨_, results_tmp rfl _ _ _, by rw [HRd.out, HR.out]; rfl, hB.trans (belowK_b (w := w) (Nat.le_refl _) _ D _ _ (by omega) hK rfl rfl)⟩
  case stop =>
    rintro D c pre W _ _ h _
    exact h.elim
theorem sum_c (s : ByteArray) (hs : s.size ≤ 1000) (A : Option Addr) (m c : Nat) (l : List Int) (w : World) (h : Nums .i64 w A m c l) :
    Calls Try.prog 77 #[.string s, .slice A m c] w fun e W' => e = .returned (.int .u64 (sumS s l)) ∧ E w W' :=
  callsIn_wide.1 (sum_in Fence.wide rfl trivial trivial trivial trivial (fun _ a b W => callsIn_wide.2 (mix_c a b W)) 3 (Nat.le_refl _) s hs A m c l w h)
end Go.Proofs.Ytbpfdogjjoceaaa
