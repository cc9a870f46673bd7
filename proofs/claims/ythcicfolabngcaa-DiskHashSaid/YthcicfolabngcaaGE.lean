/- Lemmas of the claim, joined: HA HB HE HF. No condition. -/
import Derived.RangeFuncNested
import Derived.RangeFuncBound
import Derived.RangeFuncCalls
import Derived.RangeFuncLeaves
import Derived.RangeFuncFrom
import Derived.Shelf.Abstract
import Derived.Shelf.RegionOpen
import Derived.WalkKit
import Derived.OwnWalkIn
import Derived.TacticsInMore
import Derived.LoopNIn
import Derived.LoopIn
import Derived.Laws.Bits64b
import Derived.Test.YthcicfolabngcaaChecked
import Derived.Test.YthcicfolabngcaaGA
import Derived.RangeFuncBox
import Derived.Lib.ConvBytes
import Derived.Laws.Bits64
/- hash.mix and the iterator of the words of a byte slice. -/
namespace Go.Proofs.Ythcicfolabngcaa
open Go.RowKit Go.Shelf
attribute [local go_sem] Oper.semAt_some

def mulF (a b : Int) : Int := IntKind.u64.wrap (bits .xor .u64 a b * 11400714819323198485)
def mixV (a b : Int) : Int := bits .xor .u64 (mulF a b) (mulF a b / 4294967296)
theorem wrapU_range (x : Int) : 0 ≤ IntKind.u64.wrap x ∧ IntKind.u64.wrap x ≤ 18446744073709551615 := by rw [IntKind.wrap_u64]; omega
theorem mulF_range (a b : Int) : 0 ≤ mulF a b ∧ mulF a b ≤ 18446744073709551615 := wrapU_range _
theorem bits_range (op : BinOp) (a b : Int) (h : op = .xor ∨ op = .or) : 0 ≤ bits op .u64 a b ∧ bits op .u64 a b ≤ 18446744073709551615 := by
  rcases h with rfl | rfl
  · exact wrapU_range _
  · exact wrapU_range _
theorem mixV_range (a b : Int) : 0 ≤ mixV a b ∧ mixV a b ≤ 18446744073709551615 := bits_range .xor _ _ (.inl rfl)

set_option maxHeartbeats 400000 in
theorem mix_c (a b : Int) (w : World) : Calls Try.prog 76 #[.int .u64 a, .int .u64 b] w fun e w' => e = .returned (.int .u64 (mixV a b)) ∧ w = w' := by
  obtain ⟨m, hm⟩ : ∃ m, IntKind.u64.wrap (bits .xor .u64 a b * 11400714819323198485) = m := ⟨_, rfl⟩
  have hr := wrapU_range (bits .xor .u64 a b * 11400714819323198485)
  rw [hm] at hr
  obtain ⟨m0, m1⟩ := hr
  have HM := Lib.hid (show mixV a b = bits .xor .u64 m (m / 4294967296) by rw [mixV, mulF, hm])
  generalize mixV a b = v at *
  go_enter Try.func76, Try.ntmps76
  go_wp2
  go_ret
  exact ⟨ret_int HM.out.symm, rfl⟩

/-- a word out of bytes, the first the lowest -/
def wordF (acc : Int) (i : Nat) : List Int → Int
  | [] => acc
  | c :: r => wordF (bits .or .u64 acc (IntKind.u64.wrap (c * 2 ^ (8 * i)))) (i + 1) r
def wordAt (bs : List Int) (k : Nat) : Int := wordF 0 0 ((bs.drop (8 * k)).take 8)
def nWords (n : Nat) : Nat := (n + 7) / 8
def wordsL (bs : List Int) : List Int := (List.range (nWords bs.length)).map (wordAt bs)
def uptoW (bs : List Int) (k : Nat) : List Int := (List.range k).map (wordAt bs)
theorem uptoW_succ (bs : List Int) (k : Nat) : uptoW bs (k + 1) = uptoW bs k ++ [wordAt bs k] := by simp [uptoW, List.range_succ]
theorem uptoW_len (bs : List Int) (k : Nat) : (uptoW bs k).length = k := by simp [uptoW]

/-- two blocks stay as they are -/
def K2 (b c : Nat) (W W' : World) : Prop := W'.heap[b]? = W.heap[b]? ∧ W'.heap[c]? = W.heap[c]?
theorem K2.refl (b c : Nat) (W : World) : K2 b c W W := ⟨rfl, rfl⟩
theorem K2.trans {b c : Nat} {A B C : World} (h : K2 b c A B) (k : K2 b c B C) : K2 b c A C := ⟨k.1.trans h.1, k.2.trans h.2⟩
theorem K2.cell1 {b c : Nat} {A B : World} (h : K2 b c A B) (o : Nat) : B.cell? ⟨b, o, none⟩ = A.cell? ⟨b, o, none⟩ := World.cell?_of_block h.1
theorem K2.cell2 {b c : Nat} {A B : World} (h : K2 b c A B) (o : Nat) : B.cell? ⟨c, o, none⟩ = A.cell? ⟨c, o, none⟩ := World.cell?_of_block h.2

set_option maxRecDepth 100000 in
set_option maxHeartbeats 2000000 in
/-- the closure: for every loop body that keeps what lay below n0 -/
theorem words1_in (F : Fence) (n : Nat) (h7 : F.fn 75) (hro : F.round = none) (hn : 1 ≤ n) (l Bs b off len cap : Nat) (bs : List Int) (hreach : len ≤ 1099511627776) (hlc : len ≤ cap) (hl : bs.length = len) (hwf : ∀ x ∈ bs, 0 ≤ x ∧ x ≤ 255) (J Jx : List Int → World → Prop)
    (hY : ∀ pre x W, J pre W → pre.length < nWords len → YieldAt F (n - 1) Try.prog l #[.int .u64 x] W fun e W' =>
      (e = .returned (.bool true) ∧ J (pre ++ [x]) W' ∧ K2 b Bs W W') ∨ (e = .returned (.bool false) ∧ Jx (pre ++ [x]) W'))
    (W : World) (hBs : W.cell? ⟨Bs, 0, none⟩ = some (.slice (some ⟨b, off, none⟩) len cap)) (hc : ∀ j x, bs[j]? = some x → W.cell? ⟨b, off + j, none⟩ = some (.int .u8 x)) (h0 : J [] W) :
    CallsIn F n Try.prog 75 #[.func (.yield l) #[] #[], .pointer (some ⟨Bs, 0, none⟩)] W fun e W' => (∃ v, e = .returned v) ∧
      ((∃ ys, ys = uptoW bs (nWords len) ∧ J ys W') ∨ (∃ pre, (∃ k, k ≤ nWords len ∧ pre = uptoW bs k) ∧ Jx pre W')) := by
  refine callsIn_of_wp Try.func75 rfl h7 ?_ hro
  simp only [Try.ntmps75, List.size_toArray, List.length_cons, List.length_nil, Nat.reduceAdd, Nat.reduceSub, Array.replicate_succ, Array.replicate_zero, List.push_toArray, List.append_toArray, List.nil_append, List.cons_append]
  gi_wp2
  have HC := Lib.hid hc
  have HW := Lib.hid hwf
  have HLb := Lib.hid hl
  clear hc hwf
  gi_loopw [3] (fun i wr => ∃ k p : Nat, k ≤ nWords len ∧ Hid (p = 8 * k) ∧ i = .int .i64 p ∧ J (uptoW bs k) wr ∧ K2 b Bs W wr)
    (fun i _ => len + 8 - (intOf i).toNat)
  case atStart => exact ⟨0, 0, Nat.zero_le _, rfl, rfl, h0, K2.refl _ _ _⟩
  case round =>
    obtain ⟨k, p, hk, HP, rfl, hJs, hnx⟩ := hrel
    have hBs' : wr.cell? ⟨Bs, 0, none⟩ = some (.slice (some ⟨b, off, none⟩) len cap) := (hnx.cell2 0).trans hBs
    have hp8 : p = 8 * k := HP.out
    have hpk : p ≤ len + 8 := by rw [hp8]; unfold nWords at hk; omega
    by_cases hlt : p < len
    · have hltI : (p : Int) < (len : Int) := by omega
      have hkn : k < nWords len := by unfold nWords; omega
      clear hp8
      by_cases h8 : p + 8 ≤ len
      · have h8I : (p : Int) + 8 ≤ (len : Int) := by omega
        gi_wp2
        gi_loopw [4, 22] (fun tv ti w2 => ∃ (j : Nat) (acc : Int), j ≤ 8 ∧ ti = .int .i64 j ∧ tv = .int .u64 acc ∧ 0 ≤ acc ∧ acc ≤ 18446744073709551615 ∧ Hid (wordF acc j (((bs.drop p).take 8).drop j) = wordAt bs k) ∧ w2 = wr) (fun _ ti _ => 8 - (intOf ti).toNat)
        case atStart => exact ⟨0, 0, Nat.zero_le _, rfl, rfl, by omega, by omega, show _ = _ by rw [HP.out]; rfl, rfl⟩
        case round =>
          obtain ⟨wq, hwq⟩ : ∃ wq : World, wq = wr := ⟨_, rfl⟩
          obtain ⟨j, acc, hj, rfl, rfl, a0, a1, hW, hw2⟩ := hrel
          subst hw2
          by_cases hjM : j < 8
          · obtain ⟨x, hx⟩ : ∃ x, bs[p + j]? = some x := ⟨bs[p + j]'(by omega), List.getElem?_eq_getElem (by omega)⟩
            obtain ⟨x0, x1⟩ := HW.out x (List.mem_of_getElem? hx)
            have hcx : wr.cell? ⟨b, off + p + j, none⟩ = some (.int .u8 x) := by
              rw [Nat.add_assoc]; exact (hnx.cell1 _).trans (HC.out _ x hx)
            have HD := Lib.hid (show ((bs.drop p).take 8).drop j = x :: ((bs.drop p).take 8).drop (j + 1) by
              refine drop_at ?_
              rw [List.getElem?_take_of_lt (by omega), List.getElem?_drop]; exact hx)
            obtain ⟨acc', hacc⟩ : ∃ a, bits .or .u64 acc (IntKind.u64.wrap (x * 2 ^ (8 * j))) = a := ⟨_, rfl⟩
            have hbr := bits_range .or acc (IntKind.u64.wrap (x * 2 ^ (8 * j))) (.inr rfl)
            rw [hacc] at hbr
            obtain ⟨br0, br1⟩ := hbr
            have HA' := Lib.hid hacc
            clear hx
            gi_wp2
            go_roundw
            case rel => exact ⟨j + 1, acc', by omega, by go_num, rfl, br0, br1, show _ = _ by rw [← hW.out, HD.out, wordF, HA'.out], by first | trivial | rfl⟩
            case measure => simp [intOf]; omega
          · have hword : acc = wordAt bs k := by
              rw [← hW.out, List.drop_eq_nil_of_le (by rw [List.length_take, List.length_drop]; omega)]; rfl
            clear hW
            obtain ⟨fn, tmps, assign, body, hy, hR⟩ := hY (uptoW bs k) acc wr hJs (by rw [uptoW_len]; exact hkn)
            have HWd := Lib.hid hword
            clear hword
            gi_wp2
            refine hR.mono ?_
            rintro e W3 (⟨rfl, hJ3, hk3⟩ | ⟨rfl, hJx3⟩)
            · gi_wp2
              go_roundw
              case rel => exact ⟨k + 1, p + 8, hkn, show _ = _ by rw [HP.out]; omega, by go_num, by rw [uptoW_succ, ← HWd.out]; exact hJ3, hnx.trans hk3⟩
              case measure => simp [intOf]; omega
            · gi_wp2
              refine bodyPost_ret (results_none rfl _ _ _) rfl ?_
              exact ⟨⟨_, rfl⟩, .inr ⟨_, ⟨k + 1, hkn, by rw [uptoW_succ, ← HWd.out]⟩, hJx3⟩⟩
      · have h8I : ¬ (p : Int) + 8 ≤ (len : Int) := by omega
        gi_wp2
        gi_loopw [4, 22] (fun tv ti w2 => ∃ (j : Nat) (acc : Int), j ≤ (len - p) ∧ ti = .int .i64 j ∧ tv = .int .u64 acc ∧ 0 ≤ acc ∧ acc ≤ 18446744073709551615 ∧ Hid (wordF acc j (((bs.drop p).take 8).drop j) = wordAt bs k) ∧ w2 = wr) (fun _ ti _ => (len - p) - (intOf ti).toNat)
        case atStart => exact ⟨0, 0, Nat.zero_le _, rfl, rfl, by omega, by omega, show _ = _ by rw [HP.out]; rfl, rfl⟩
        case round =>
          obtain ⟨wq, hwq⟩ : ∃ wq : World, wq = wr := ⟨_, rfl⟩
          obtain ⟨j, acc, hj, rfl, rfl, a0, a1, hW, hw2⟩ := hrel
          subst hw2
          by_cases hjM : j < (len - p)
          · obtain ⟨x, hx⟩ : ∃ x, bs[p + j]? = some x := ⟨bs[p + j]'(by omega), List.getElem?_eq_getElem (by omega)⟩
            obtain ⟨x0, x1⟩ := HW.out x (List.mem_of_getElem? hx)
            have hcx : wr.cell? ⟨b, off + p + j, none⟩ = some (.int .u8 x) := by
              rw [Nat.add_assoc]; exact (hnx.cell1 _).trans (HC.out _ x hx)
            have HD := Lib.hid (show ((bs.drop p).take 8).drop j = x :: ((bs.drop p).take 8).drop (j + 1) by
              refine drop_at ?_
              rw [List.getElem?_take_of_lt (by omega), List.getElem?_drop]; exact hx)
            obtain ⟨acc', hacc⟩ : ∃ a, bits .or .u64 acc (IntKind.u64.wrap (x * 2 ^ (8 * j))) = a := ⟨_, rfl⟩
            have hbr := bits_range .or acc (IntKind.u64.wrap (x * 2 ^ (8 * j))) (.inr rfl)
            rw [hacc] at hbr
            obtain ⟨br0, br1⟩ := hbr
            have HA' := Lib.hid hacc
            clear hx
            gi_wp2
            go_roundw
            case rel => exact ⟨j + 1, acc', by omega, by go_num, rfl, br0, br1, show _ = _ by rw [← hW.out, HD.out, wordF, HA'.out], by first | trivial | rfl⟩
            case measure => simp [intOf]; omega
          · have hword : acc = wordAt bs k := by
              rw [← hW.out, List.drop_eq_nil_of_le (by rw [List.length_take, List.length_drop]; omega)]; rfl
            clear hW
            obtain ⟨fn, tmps, assign, body, hy, hR⟩ := hY (uptoW bs k) acc wr hJs (by rw [uptoW_len]; exact hkn)
            have HWd := Lib.hid hword
            clear hword
            gi_wp2
            refine hR.mono ?_
            rintro e W3 (⟨rfl, hJ3, hk3⟩ | ⟨rfl, hJx3⟩)
            · gi_wp2
              go_roundw
              case rel => exact ⟨k + 1, p + 8, hkn, show _ = _ by rw [HP.out]; omega, by go_num, by rw [uptoW_succ, ← HWd.out]; exact hJ3, hnx.trans hk3⟩
              case measure => simp [intOf]; omega
            · gi_wp2
              refine bodyPost_ret (results_none rfl _ _ _) rfl ?_
              exact ⟨⟨_, rfl⟩, .inr ⟨_, ⟨k + 1, hkn, by rw [uptoW_succ, ← HWd.out]⟩, hJx3⟩⟩
    · have hke : k = nWords len := by unfold nWords at hk ⊢; omega
      clear hp8
      have HK := Lib.hid hke
      clear hke
      gi_wp2
      go_end0
      exact ⟨⟨_, rfl⟩, .inl ⟨_, rfl, by rw [← HK.out]; exact hJs⟩⟩

set_option maxRecDepth 100000 in
set_option maxHeartbeats 1000000 in
/-- no byte: no round -/
theorem words0_in (F : Fence) (n : Nat) (h7 : F.fn 75) (hro : F.round = none) (l Bs cap : Nat) (A : Option Addr) (J : List Int → World → Prop) (W : World) (hBs : W.cell? ⟨Bs, 0, none⟩ = some (.slice A 0 cap)) (h0 : J [] W) :
    CallsIn F n Try.prog 75 #[.func (.yield l) #[] #[], .pointer (some ⟨Bs, 0, none⟩)] W fun e W' => (∃ v, e = .returned v) ∧ J [] W' := by
  refine callsIn_of_wp Try.func75 rfl h7 ?_ hro
  simp only [Try.ntmps75, List.size_toArray, List.length_cons, List.length_nil, Nat.reduceAdd, Nat.reduceSub, Array.replicate_succ, Array.replicate_zero, List.push_toArray, List.append_toArray, List.nil_append, List.cons_append]
  gi_wp2
  gi_loopw [3] (fun i wr => i = .int .i64 0 ∧ wr = W) (fun _ _ => 0)
  case atStart => exact ⟨rfl, rfl⟩
  case round =>
    obtain ⟨rfl, rfl⟩ := hrel
    gi_wp2
    go_end0
    exact ⟨⟨_, rfl⟩, h0⟩
set_option maxHeartbeats 1000000 in
theorem wordsOf_in (F : Fence) (n : Nat) (h5 : F.fn 56) (hro : F.round = none) (a : Option Addr) (len cap : Nat) (w : World) :
    CallsIn F n Try.prog 56 #[.slice a len cap] w fun e w' => e = .returned (.func (.func 75) #[] #[.pointer (some ⟨w.heap.size, 0, none⟩)]) ∧ w' = w.alloc (.cells #[.slice a len cap] 27) := by
  refine callsIn_of_wp Try.func56 rfl h5 ?_ hro
  simp only [Try.ntmps56, List.size_toArray, List.length_cons, List.length_nil, Nat.reduceAdd, Nat.reduceSub, Array.replicate_succ, Array.replicate_zero, List.push_toArray, List.append_toArray, List.nil_append, List.cons_append]
  gi_wp2
  go_ret
  exact ⟨rfl, rfl⟩
/-- the block of a slice's bytes (the box itself where there is none) -/
def blkOf (A : Option Addr) (n Bs : Nat) : Nat := if n = 0 then Bs else (A.map (·.block)).getD Bs
theorem words_stops (F : Fence) (n : Nat) (h7 : F.fn 75) (hro : F.round = none) (hn : 1 ≤ n) (Bs : Nat) (A : Option Addr) (len cap : Nat) (bs : List Int) (hreach : len ≤ 1099511627776) (w : World) (hBs : Bs < w.heap.size)
    (hc : w.cell? ⟨Bs, 0, none⟩ = some (.slice A len cap)) (hI : Nums .u8 w A len cap bs) :
    SeqStopsK F n Try.prog 75 #[.pointer (some ⟨Bs, 0, none⟩)] (fun x : Int => #[Value.int .u64 x]) (K2 (blkOf A len Bs) Bs) (fun ys => ys = wordsL bs) (fun _ => True) (nWords len) w := fun l J Jx W hW _ _ hY h0 => by
  have hc' := (hW.cell (p := ⟨Bs, 0, none⟩) hBs).trans hc
  have hI' := hI.e hW
  rcases Nat.eq_zero_or_pos len with h0' | h0'
  · subst h0'
    have hb : bs = [] := List.eq_nil_of_length_eq_zero hI.len
    subst hb
    exact (words0_in F n h7 hro l Bs cap A J W hc' h0).mono fun e W' ⟨he, hj⟩ => ⟨he, .inl ⟨[], rfl, hj⟩⟩
  · obtain ⟨b, off, rfl, _, hcs⟩ := hI'.at_ h0'
    have hbk : blkOf (some ⟨b, off, none⟩) len Bs = b := by unfold blkOf; rw [if_neg (by omega)]; rfl
    rw [hbk] at hY
    refine (words1_in F n h7 hro hn l Bs b off len cap bs hreach hI.cap hI.len (fun x hx => wf_u8 (hI.wf x hx)) J Jx hY W hc' (fun j x hx => by
      obtain ⟨hj, rfl⟩ := List.getElem?_eq_some_iff.1 hx
      exact hcs j hj) h0).mono ?_
    rintro e W' ⟨he, ⟨ys, rfl, hj⟩ | ⟨pre, _, hj⟩⟩
    · exact ⟨he, .inl ⟨_, by rw [wordsL, hI.len]; rfl, hj⟩⟩
    · exact ⟨he, .inr ⟨_, trivial, hj⟩⟩
end Go.Proofs.Ythcicfolabngcaa
/- hash.Sum. -/
namespace Go.Proofs.Ythcicfolabngcaa
open Go.RowKit Go.Shelf
attribute [local go_sem] Oper.semAt_some

def bytS (s : ByteArray) : List Int := s.data.toList.map (fun b => (b.toNat : Int))
theorem bytS_len (s : ByteArray) : (bytS s).length = s.size := by simp [bytS]
def sumS (s : ByteArray) (l : List Int) : Int := mixV ((l.map IntKind.u64.wrap).foldl mixV (mixV (mixV ((wordsL (bytS s)).foldl mixV 0) s.size) (IntKind.u64.wrap l.length))) 0
theorem bytesWorld_e (w : World) (e : TypeId) (s : ByteArray) : E w (Lib.bytesWorld w e s) := by
  refine ⟨?_, ?_, ?_, ?_, ?_⟩
  · simp [Lib.bytesWorld, World.freeze, World.alloc, World.drew, -World.alloc_eq, -World.drew_eq]
  · simp [Lib.bytesWorld, World.freeze, World.alloc, World.drew, -World.alloc_eq, -World.drew_eq]
  · simp [Lib.bytesWorld, World.freeze, World.alloc, World.drew, -World.alloc_eq, -World.drew_eq]
  · rw [Lib.bytesWorld_size]; omega
  · intro b hb; exact Lib.bytesWorld_at_old w e s b hb
theorem bytesWorld_nums (w : World) (e : TypeId) (s : ByteArray) (hs : s.size ≤ 1000) : Nums .u8 (Lib.bytesWorld w e s) (some ⟨w.heap.size, 0, none⟩) s.size (grownCap w s.size 0 e) (bytS s) := by
  refine ⟨bytS_len s, grownCap_ge w _ _ _, grownCap_le_maxLen w _ _ _ (by unfold maxLen; omega), fun x hx => ?_, fun _ => ⟨_, 0, rfl, by rw [Lib.bytesWorld_size]; omega, fun i hi => ?_⟩⟩
  · obtain ⟨b, _, rfl⟩ := List.mem_map.1 hx
    have := b.toNat_lt
    exact WalkArith.wf_u8 ⟨by omega, by omega⟩
  · rw [bytS_len] at hi
    rw [Nat.zero_add, Lib.bytesWorld_cell w e s i hi]
    have : i < s.data.toList.length := by simpa using hi
    simp [bytS, List.getD_eq_getElem?_getD, List.getElem?_eq_getElem this]

theorem box_new (W : World) (v : Value) (t : TypeId) : (W.alloc (.cells #[v] t)).cell? ⟨W.heap.size, 0, none⟩ = some v ∧ (W.alloc (.cells #[v] t)).frozen? ⟨W.heap.size, 0, none⟩ = false := by
  have h := World.alloc_heap_new W (.cells #[v] t)
  constructor
  · unfold World.cell?; dsimp only; rw [h]; rfl
  · unfold World.frozen?; dsimp only; rw [h]; rfl
theorem K2.put {b c : Nat} (W : World) (l : Nat) (o' : Obj) (hb : b ≠ l) (hc : c ≠ l) : K2 b c W (W.putObj l o') := ⟨World.putObj_heap_other hb, World.putObj_heap_other hc⟩
theorem K2.set {b c : Nat} (W : World) (a : Addr) (v : Value) (hb : b ≠ a.block) (hc : c ≠ a.block) : K2 b c W (W.setCell a v) := ⟨Below.heap_setCell _ _ _ _ hb, Below.heap_setCell _ _ _ _ hc⟩
theorem blkOf_cases (b n Bs : Nat) : blkOf (some ⟨b, 0, none⟩) n Bs = Bs ∨ blkOf (some ⟨b, 0, none⟩) n Bs = b := by
  unfold blkOf
  split
  · exact .inl rfl
  · exact .inr rfl

set_option maxRecDepth 100000 in
set_option maxHeartbeats 2000000 in
theorem sum_in (F : Fence) (hro : F.round = none) (f1 : F.fn 57) (f2 : F.fn 56) (f3 : F.fn 75) (f4 : F.fn 76) (hmix : ∀ k a b W, CallsIn F k Try.prog 76 #[.int .u64 a, .int .u64 b] W fun e w' => e = .returned (.int .u64 (mixV a b)) ∧ W = w') (n : Nat) (hn : 3 ≤ n) (s : ByteArray) (hs : s.size ≤ 1000) (A : Option Addr) (m c : Nat) (l : List Int) (w : World) (h : Nums .i64 w A m c l) :
    CallsIn F n Try.prog 57 #[.string s, .slice A m c] w fun e W' => e = .returned (.int .u64 (sumS s l)) ∧ E w W' := by
  have hn1 : 1 ≤ n := by omega
  have hn2 : 1 ≤ n - 1 - 1 := by omega
  have hcv := Lib.run_convert_string_bytes (P := Try.prog) (w.alloc (.cells #[.int .u64 0] 61)) 9 27 5 s (by exact Try.underlying9) (by exact Try.underlying27) (by exact Try.underlying5)
  have hE1 : E w (w.alloc (.cells #[.int .u64 0] 61)) := (E.refl w).alloc _
  have hN2 := bytesWorld_nums (w.alloc (.cells #[.int .u64 0] 61)) 5 s hs
  have hE2 := bytesWorld_e (w.alloc (.cells #[.int .u64 0] 61)) 5 s
  have hS2 := Lib.bytesWorld_size (w.alloc (.cells #[.int .u64 0] 61)) 5 s
  rw [World.size_alloc] at hcv hN2 hS2
  generalize grownCap (w.alloc (.cells #[.int .u64 0] 61)) s.size 0 5 = cc at *
  generalize Lib.bytesWorld (w.alloc (.cells #[.int .u64 0] 61)) 5 s = w2 at *
  refine callsIn_of_wp_marks Try.func57 rfl f1 ?_ hro
  simp only [Try.ntmps57, List.size_toArray, List.length_cons, List.length_nil, Nat.reduceAdd, Nat.reduceSub, Array.replicate_succ, Array.replicate_zero, List.push_toArray, List.append_toArray, List.nil_append, List.cons_append]
  gi_wp2_with (gi_at_call 56; refine (wordsOf_in F (n - 1) f2 hro _ _ _ _).mono ?_; rintro e w' ⟨rfl, rfl⟩)
  have hb0 := box_new w (.int .u64 0) 61
  have hc2 : w2.cell? ⟨w.heap.size, 0, none⟩ = some (.int .u64 0) := (hE2.cell (p := ⟨w.heap.size, 0, none⟩) (by simp)).trans hb0.1
  have hf2 : w2.frozen? ⟨w.heap.size, 0, none⟩ = false := (Below.frozen hE2 (p := ⟨w.heap.size, 0, none⟩) (by simp)).trans hb0.2
  have hb3 := box_new w2 (.slice (some ⟨w.heap.size + 1, 0, none⟩) s.size cc) 27
  rw [hS2] at hb3
  have hE23 : E w2 (w2.alloc (.cells #[.slice (some ⟨w.heap.size + 1, 0, none⟩) s.size cc] 27)) := (E.refl _).alloc _
  have hS3 : (w2.alloc (.cells #[.slice (some ⟨w.heap.size + 1, 0, none⟩) s.size cc] 27)).heap.size = w.heap.size + 1 + 1 + 1 := by rw [World.size_alloc, hS2]
  have hN3 := hN2.e hE23
  have hc3 := (hE23.cell (p := ⟨w.heap.size, 0, none⟩) (by show w.heap.size < w2.heap.size; omega)).trans hc2
  have hf3 := (Below.frozen hE23 (p := ⟨w.heap.size, 0, none⟩) (by show w.heap.size < w2.heap.size; omega)).trans hf2
  have hE3 : E w _ := (hE1.trans hE2).trans hE23
  have hbox := hb3.1
  clear hcv hE1 hN2 hE2 hb0 hc2 hf2 hb3 hE23 hS2
  generalize w2.alloc (.cells #[.slice (some ⟨w.heap.size + 1, 0, none⟩) s.size cc] 27) = w3 at *
  have hblk : blkOf (some ⟨w.heap.size + 1, 0, none⟩) s.size (w.heap.size + 1 + 1) ≠ w.heap.size ∧ blkOf (some ⟨w.heap.size + 1, 0, none⟩) s.size (w.heap.size + 1 + 1) < w3.heap.size := by
    rcases blkOf_cases (w.heap.size + 1) s.size (w.heap.size + 1 + 1) with e | e <;> rw [e, hS3] <;> omega
  refine wpIn_rangeFunc_ownF hro hn1 (gf := 75) (lb := #[.pointer (some ⟨w.heap.size + 1 + 1, 0, none⟩)]) rfl f3 (enters_of Try.func75 (by kernel_rfl) rfl)
    (words_stops F (n - 1) f3 hro (by omega) (w.heap.size + 1 + 1) _ s.size cc (bytS s) (by omega) w3 (by omega) hbox hN3) K2.trans (fun W l o o' hl _ _ _ => K2.put W l o' (by omega) (by omega)) (Below.refl _ _) (fun _ => rfl)
    (fun pre W => (W.cell? ⟨w.heap.size, 0, none⟩ = some (.int .u64 (pre.foldl mixV 0)) ∧ W.frozen? ⟨w.heap.size, 0, none⟩ = false) ∧ Below w.heap.size w W)
    (fun _ _ _ => False)
    (OwnFrom.and (Go.Own.from (fun s A B row hs hg hr => ⟨cell_kept hs.1 hg hr, (frozen_kept hs.1 hg hr).trans hs.2⟩) _) (ownFrom_below (Nat.le_refl _) (by omega)))
    (fun _ _ _ _ _ hs _ _ => hs)
    ⟨⟨hc3, hf3⟩, hE3⟩
    (fun x => { tmps := #[.string s, .slice A m c, undef, undef, .int .u64 0, .pointer (some ⟨w.heap.size, 0, none⟩), .int .u64 x, undef, undef, .string s, .slice (some ⟨w.heap.size + 1, 0, none⟩) s.size cc, .func (.func 75) #[] #[.pointer (some ⟨w.heap.size + 1 + 1, 0, none⟩)], .int .u64 x, undef, undef, undef, undef, undef, undef, undef, undef, undef, undef, undef, undef, undef, undef, undef, undef, undef, undef, undef, undef, undef, undef, undef, undef, undef, undef], defers := [] }) ?assign ?body ?done ?stop
  case assign =>
    intro ℓ x W K hK
    gi_wp2
    exact hK
  case body =>
    rintro ℓ pre x W ⟨⟨hc, hf⟩, hB⟩ _
    gi_wp2_with (gi_at_call 76; refine (CallsIn.inRound ℓ (hmix _ _ _ _)).mono ?_; rintro e w' ⟨rfl, rfl⟩)
    exact ⟨KeepsOthers.setCell _ _ _, K2.set W ⟨w.heap.size, 0, none⟩ _ hblk.1 (by show w.heap.size + 1 + 1 ≠ w.heap.size; omega), ⟨by rw [List.foldl_append]; exact World.cell?_setCell_same' _ _ _ (by rw [hc]; rfl), by rw [World.frozen?_setCell]; exact hf⟩, hB.setCell (p := ⟨w.heap.size, 0, none⟩) (Nat.le_refl _) _⟩
  case done =>
    rintro D ys W hD rfl ⟨⟨hc, hf⟩, hB⟩ hK
    gi_wp2_with (gi_at_call 76; refine (hmix _ _ _ _).mono ?_; rintro e w' ⟨rfl, rfl⟩)
    obtain ⟨st, hst⟩ : ∃ st, mixV (mixV (List.foldl mixV 0 (wordsL (bytS s))) ↑s.size) (IntKind.u64.wrap ↑m) = st := ⟨_, rfl⟩
    have HS := Lib.hid (show sumS s l = mixV ((l.map IntKind.u64.wrap).foldl mixV st) 0 by rw [sumS, h.len, hst])
    rw [hst]
    have hcB := World.cell?_setCell_same' (W.setCell ⟨w.heap.size, 0, none⟩ (.int .u64 (mixV (List.foldl mixV 0 (wordsL (bytS s))) ↑s.size))) ⟨w.heap.size, 0, none⟩ (.int .u64 st) (by rw [World.cell?_setCell_same' _ _ _ (by rw [hc]; rfl)]; rfl)
    have hfB : ((W.setCell ⟨w.heap.size, 0, none⟩ (.int .u64 (mixV (List.foldl mixV 0 (wordsL (bytS s))) ↑s.size))).setCell ⟨w.heap.size, 0, none⟩ (.int .u64 st)).frozen? ⟨w.heap.size, 0, none⟩ = false := by rw [World.frozen?_setCell, World.frozen?_setCell]; exact hf
    have hKB := (KeepsOthers.setCell _ ⟨w.heap.size, 0, none⟩ (.int .u64 st)).same D _ ((KeepsOthers.setCell W ⟨w.heap.size, 0, none⟩ (.int .u64 (mixV (List.foldl mixV 0 (wordsL (bytS s))) ↑s.size))).same D _ hK rfl) rfl
    have hEB : Below w.heap.size w _ := (hB.setCell (p := ⟨w.heap.size, 0, none⟩) (Nat.le_refl _) (.int .u64 (mixV (List.foldl mixV 0 (wordsL (bytS s))) ↑s.size))).setCell (p := ⟨w.heap.size, 0, none⟩) (Nat.le_refl _) (.int .u64 st)
    clear hc hf hK hB
    generalize ((W.setCell ⟨w.heap.size, 0, none⟩ (.int .u64 (mixV (List.foldl mixV 0 (wordsL (bytS s))) ↑s.size))).setCell ⟨w.heap.size, 0, none⟩ (.int .u64 st)) = wB at *
    obtain ⟨R, hRd⟩ : ∃ R, sumS s l = R := ⟨_, rfl⟩
    rw [hRd] at HS
    have HRd := Lib.hid hRd
    clear hRd
    gi_loopw [28] (fun ti wr => ∃ (k : Nat) (acc : Int), k ≤ m ∧ ti = .int .i64 k ∧ wr.cell? ⟨w.heap.size, 0, none⟩ = some (.int .u64 acc) ∧ wr.frozen? ⟨w.heap.size, 0, none⟩ = false ∧ wr.heap[D]? = some (.deferred (some [])) ∧ Below w.heap.size w wr ∧ Hid (R = mixV (((l.drop k).map IntKind.u64.wrap).foldl mixV acc) 0)) (fun ti _ => m - (intOf ti).toNat)
    case atStart => exact ⟨0, st, Nat.zero_le _, rfl, hcB, hfB, hKB, hEB, show _ = _ from HS.out⟩
    case round =>
      clear hcB hfB hKB hEB
      obtain ⟨k, acc, hk, rfl, hc, hf, hK, hB, hR⟩ := hrel
      have hNw := h.e hB
      have hm63 := h.n63
      by_cases hkm : k < m
      · obtain ⟨b, o, rfl, hbl, hcs⟩ := hNw.at_ (by omega)
        obtain ⟨x, hx⟩ : ∃ x, l[k]? = some x := ⟨l[k]'(by rw [h.len]; omega), List.getElem?_eq_getElem (by rw [h.len]; omega)⟩
        have hcx : wr.cell? ⟨b, o + k, none⟩ = some (.int .i64 x) := by
          obtain ⟨hj, rfl⟩ := List.getElem?_eq_some_iff.1 hx
          exact hcs k hj
        have HD := Lib.hid (drop_at hx)
        have hkI : (k : Int) < (m : Int) := by omega
        clear hcs hx
        gi_wp2_with (gi_at_call 76; refine (hmix _ _ _ _).mono ?_; rintro e w' ⟨rfl, rfl⟩)
        go_roundw
        case rel => exact ⟨k + 1, _, by omega, by go_num, World.cell?_setCell_same' _ _ _ (by rw [hc]; rfl), by rw [World.frozen?_setCell]; exact hf, (KeepsOthers.setCell _ _ _).same D _ hK rfl, hB.setCell (p := ⟨w.heap.size, 0, none⟩) (Nat.le_refl _) _, show _ = _ by rw [hR.out, HD.out]; rfl⟩
        case measure => simp [intOf]; omega
      · have hRe : R = mixV acc 0 := by rw [hR.out, List.drop_eq_nil_of_le (by rw [h.len]; omega)]; rfl
        have HR := Lib.hid hRe
        clear hRe hR
        have hkI : ¬ (k : Int) < (m : Int) := by omega
        gi_wp2_with (gi_at_call 76; refine (hmix _ _ _ _).mono ?_; rintro e w' ⟨rfl, rfl⟩)
        refine ⟨by simp, .inl ⟨_, _, rfl, run_takeDeferred hK, ?_⟩⟩
        exact ⟨_, results_tmp rfl _ _ _, by rw [HRd.out, HR.out]; rfl, hB.trans (belowK_b (w := w) (Nat.le_refl _) _ D _ _ (by omega) hK rfl rfl)⟩
  case stop =>
    rintro D c pre W _ _ h _
    exact h.elim
theorem sum_c (s : ByteArray) (hs : s.size ≤ 1000) (A : Option Addr) (m c : Nat) (l : List Int) (w : World) (h : Nums .i64 w A m c l) :
    Calls Try.prog 57 #[.string s, .slice A m c] w fun e W' => e = .returned (.int .u64 (sumS s l)) ∧ E w W' :=
  callsIn_wide.1 (sum_in Fence.wide rfl trivial trivial trivial trivial (fun _ a b W => callsIn_wide.2 (mix_c a b W)) 3 (Nat.le_refl _) s hs A m c l w h)
end Go.Proofs.Ythcicfolabngcaa
/- hash.Bytes. -/
namespace Go.Proofs.Ythcicfolabngcaa
open Go.RowKit Go.Shelf
attribute [local go_sem] Oper.semAt_some

section
variable {P : Program} {S T : TypeId} {k : IntKind} {by8 : Nat}
theorem wpListIn_app1n {F : Fence} {N : Nat} (it : IntT P S T k by8) (w : World) {ops : Array Oper} {rest : List Oper} {o : Oper} {a : Act} {Q : Exit → Act → World → Prop} (hgd : o.guard = none) (s x : Operand)
    (ho : o.op = .call { callee := .builtin .append, args := #[s, x], argTypes := #[S, S] })
    (base : Nat) (A : Option Addr) (n c : Nat) (l : List Int) (hs : a.eval s = .slice A n c) (hown : Own k T w base A n c l)
    (v : Int) (hx : a.eval x = .slice (some ⟨w.heap.size, 0, none⟩) 1 1) (hwf : (Lit.int k v).wf = true)
    (hlen : n ≤ 1099511627776) (hbase : base ≤ w.heap.size)
    (h : ∀ g' c' w', Own k T w' base (some ⟨g', 0, none⟩) (n + 1) c' (l ++ [v]) → w.grownBy w' (Value.slice A n c).ownBlock → Below base w w' → wpListIn F N P ops Q rest (a.put o.dst (.slice (some ⟨g', 0, none⟩) (n + 1) c')) w') :
    wpListIn F N P ops Q (o :: rest) a (w.alloc (.cells #[.int k v] T)) := by
  obtain ⟨i, hi, hz0, hz1, hz2⟩ := info_parts it.info
  have hsm := it.small
  have hown' := hown.e ((E.refl w).alloc (.cells #[.int k v] T))
  refine wpListIn_append_own (w.alloc (.cells #[.int k v] T)) hgd s x S ho base T i (.int k 0) 1 by8 it.und hi hz0 hz1 hz2 rfl (by decide) _ n _ hs hown'.2.1 ⟨w.heap.size, 0, none⟩ 1 1 [.int k v] hx rfl
    (by intro j u hu
        cases j with
        | zero => simp at hu; subst hu; exact cell_new w (.int k v) T
        | succ j => simp at hu)
    (by intro u hu; simp at hu; subst hu; rfl) (by unfold maxLen; omega)
    (by have : (n + 1) * by8 ≤ (n + 1) * 8 := Nat.mul_le_mul_left _ hsm
        omega) (by simp; omega) ?_
  intro v' w' h2 h3 _
  have hm : l.map (Value.int k) ++ [.int k v] = (l ++ [v]).map (Value.int k) := by simp
  rw [hm] at h2
  obtain ⟨g', c', rfl, hO⟩ := own_of_row h2 (by intro y hy; rcases List.mem_append.1 hy with hy | hy; exact hown.2.2 y hy; simp at hy; subst hy; exact hwf) (by omega)
  have hg := grown_of_alloc h3
  exact h g' c' w' hO hg ((Below.refl base w).grown hg hbase (ownBlock_le hown))
theorem mk_run (it : IntT P S T k by8) (w : World) (kl kc : IntKind) (C : Int) (h0 : 0 ≤ C) (hC : C ≤ 17592186044416) :
    ∃ w', (Instr.makeSlice S (.int kl 0) (.int kc C)).run P w = .ok (.slice (some ⟨w.heap.size, 0, none⟩) 0 C.toNat) w' ∧ Own k T w' w.heap.size (some ⟨w.heap.size, 0, none⟩) 0 C.toNat [] ∧ E w w' ∧ w'.heap.size = w.heap.size + 1 := by
  obtain ⟨i, hi, hz0, hz1, hz2⟩ := info_parts it.info
  have hsm := it.small
  obtain ⟨n, rfl⟩ : ∃ n : Nat, C = (n : Int) := ⟨C.toNat, by omega⟩
  have hb : i.bytes * n ≤ 281474976710656 := by
    rw [hz2]
    have : by8 * n ≤ 8 * n := Nat.mul_le_mul_right _ hsm
    omega
  have hbI : (i.bytes : Int) * (n : Int) ≤ 281474976710656 := by
    have h : ((i.bytes * n : Nat) : Int) ≤ 281474976710656 := by omega
    rwa [Int.natCast_mul] at h
  have hr := run_make (P := P) w S T i (.int k 0) it.und hi hz0 kl kc 0 n (by omega) (by omega) hbI (by omega)
  simp only [Int.toNat_natCast, Int.toNat_zero] at hr ⊢
  refine ⟨_, hr, ⟨by simp, ⟨by simp, .inr ⟨w.heap.size, n, _, rfl, Nat.le_refl _, heap_alloc_new w _, Nat.zero_le _, by unfold maxLen; omega, by rw [hz1]; show (madeCells #[Value.int k 0] (n * 1)).size = n * 1; rw [size_madeCells], by simp⟩⟩, by simp⟩, (E.refl w).alloc _, by simp⟩
end
theorem own_putO {k : IntKind} {T : TypeId} {W W' : World} {base : Nat} {A : Option Addr} {n c : Nat} {l : List Int} {row : Option Nat} (h : Own k T W base A n c l) (hg : W.grownBy W' row) (hr : ∀ r, row = some r → ∃ o : Obj, W.heap[r]? = some o ∧ o.isCells = false) : Own k T W' base A n c l := by
  refine ⟨h.1, World.ownsRow.kept h.2.1 hg ?_, h.2.2⟩
  rcases h.2.1.2 with ⟨e, _⟩ | ⟨g, cap, cur, e, _, hgb, _⟩
  · left; rw [e]; rfl
  · right
    intro e'
    obtain ⟨o, ho, hc⟩ := hr g (by rw [← e', e]; rfl)
    rw [hgb] at ho; cases ho; cases hc

theorem wrap64_wf' (x : Int) : (Lit.int .i64 (wrap64 x)).wf = true := wf_of_i64 (by unfold wrap64; omega) (by unfold wrap64; omega)
/-- the box of the words that have come, the row in it, the box of the bytes -/
def WBox (W : World) (Bw Bs base : Nat) (A : Option Addr) (m c : Nat) (pre : List Int) : Prop :=
  ∃ A' c', W.heap[Bw]? = some (.cells #[.slice A' pre.length c'] 33 (0, 0)) ∧ Own .i64 3 W base A' pre.length c' (pre.map wrap64) ∧ W.heap[Bs]? = some (.cells #[.slice A m c] 27 (0, 0))
theorem WBox.kept {W W' : World} {Bw Bs base : Nat} {A : Option Addr} {m c : Nat} {pre : List Int} {row : Option Nat} (h : WBox W Bw Bs base A m c pre) (hg : W.grownBy W' row) (hr : ∀ r, row = some r → ∃ o : Obj, W.heap[r]? = some o ∧ o.isCells = false) : WBox W' Bw Bs base A m c pre := by
  obtain ⟨A', c', h1, h2, h3⟩ := h
  exact ⟨A', c', (grownBy_keeps_cells hg hr h1 rfl).trans h1, own_putO h2 hg hr, (grownBy_keeps_cells hg hr h3 rfl).trans h3⟩
theorem wbox_step {W w4 : World} {Bw base k c' : Nat} {A' : Option Addr} {xs : List Int} (hb : W.heap[Bw]? = some (.cells #[.slice A' k c'] 33 (0, 0))) (hO : Own .i64 3 W base A' k c' xs) (hG : W.grownBy w4 (Value.slice A' k c').ownBlock) :
    w4.cell? ⟨Bw, 0, none⟩ = some (.slice A' k c') ∧ w4.frozen? ⟨Bw, 0, none⟩ = false := by
  have hne := hO.apart hb (by decide)
  have hb4 : w4.heap[Bw]? = some (.cells #[.slice A' k c'] 33 (0, 0)) := by rw [hG.block Bw (blk_lt hb) (fun e => hne e.symm)]; exact hb
  exact ⟨by rw [cell_of_row _ _ _ _ _ _ hb4]; rfl, frozen_of_row _ _ _ _ _ hb4⟩
theorem wbox_next {W w4 : World} {Bw Bs base m c c' g' c2 : Nat} {A A' : Option Addr} {pre : List Int} {x : Int} (hb : W.heap[Bw]? = some (.cells #[.slice A' pre.length c'] 33 (0, 0))) (hO : Own .i64 3 W base A' pre.length c' (pre.map wrap64)) (hs : W.heap[Bs]? = some (.cells #[.slice A m c] 27 (0, 0)))
    (hO4 : Own .i64 3 w4 base (some ⟨g', 0, none⟩) (pre.length + 1) c2 (pre.map wrap64 ++ [wrap64 x])) (hG : W.grownBy w4 (Value.slice A' pre.length c').ownBlock) (hbs : Bs ≠ Bw) :
    WBox (w4.setCell ⟨Bw, 0, none⟩ (.slice (some ⟨g', 0, none⟩) (pre.length + 1) c2)) Bw Bs base A m c (pre ++ [x]) ∧ KeepsOthers W (w4.setCell ⟨Bw, 0, none⟩ (.slice (some ⟨g', 0, none⟩) (pre.length + 1) c2)) ∧
      ∀ b, (b = Bs ∨ (b < base ∧ b < W.heap.size ∧ b ≠ Bw)) → K2 b Bs W (w4.setCell ⟨Bw, 0, none⟩ (.slice (some ⟨g', 0, none⟩) (pre.length + 1) c2)) := by
  have hne := hO.apart hb (by decide)
  have hns := hO.apart hs (by decide)
  have hb4 : w4.heap[Bw]? = some (.cells #[.slice A' pre.length c'] 33 (0, 0)) := by rw [hG.block Bw (blk_lt hb) (fun e => hne e.symm)]; exact hb
  have hs4 : w4.heap[Bs]? = W.heap[Bs]? := hG.block Bs (blk_lt hs) (fun e => hns e.symm)
  have hS : (w4.setCell ⟨Bw, 0, none⟩ (.slice (some ⟨g', 0, none⟩) (pre.length + 1) c2)).heap[Bs]? = W.heap[Bs]? := (Below.heap_setCell _ _ _ _ hbs).trans hs4
  have hko : ∀ (j : Nat) (o : Obj), (Value.slice A' pre.length c').ownBlock = some j → W.heap[j]? = some o → o.isCells = true := by
    intro j o hj ho
    rcases hO.2.1.2 with ⟨e, _⟩ | ⟨g, cap, cur, e, _, hgb, _⟩
    · rw [e] at hj; cases hj
    · rw [e] at hj
      have : g = j := by simpa [Value.ownBlock] using hj
      subst this; rw [hgb] at ho; cases ho; rfl
  refine ⟨⟨some ⟨g', 0, none⟩, c2, ?_, ?_, hS.trans hs⟩, (KeepsOthers.of_grownBy hG hko).trans (KeepsOthers.setCell _ _ _), ?_⟩
  · rw [heap_setCell_same _ _ _ _ _ _ hb4, List.length_append]; rfl
  · have := hO4.far (p := ⟨Bw, 0, none⟩) (hO4.apart hb4 (by decide)) (.slice (some ⟨g', 0, none⟩) (pre.length + 1) c2)
    rw [List.length_append, List.map_append]; exact this
  · intro b hbb
    refine ⟨?_, hS⟩
    rcases hbb with rfl | ⟨h1, h2, h3⟩
    · exact hS
    · rw [Below.heap_setCell _ _ _ _ h3]
      exact hG.block b h2 (fun e => by have := ownBlock_le hO b e.symm; omega)

set_option maxRecDepth 100000 in
set_option maxHeartbeats 2000000 in
theorem bytes_in (F : Fence) (hro : F.round = none) (f1 : F.fn 32) (f2 : F.fn 56) (f3 : F.fn 75) (f4 : F.fn 57) (hsumc : ∀ k s A m c l W, ByteArray.size s ≤ 1000 → Nums .i64 W A m c l → CallsIn F k Try.prog 57 #[.string s, .slice A m c] W fun e W' => e = .returned (.int .u64 (sumS s l)) ∧ E W W') (n : Nat) (hn : 3 ≤ n) (s : ByteArray) (hs : s.size ≤ 1000) (A : Option Addr) (m c : Nat) (l : List Int) (w : World) (h : Nums .u8 w A m c l) (hm : m ≤ 1000000) :
    CallsIn F n Try.prog 32 #[.string s, .slice A m c] w fun e W' => e = .returned (.int .u64 (sumS s ((wordsL l).map wrap64 ++ [(m : Int)]))) ∧ E w W' := by
  have hn1 : 1 ≤ n := by omega
  have hn2 : 1 ≤ n - 1 - 1 := by omega
  obtain ⟨w1, hmk, hO1, hE1, hz1⟩ := mk_run intTk w .i64 .i64 ((m : Int) / 8 + 2) (by omega) (by omega)
  refine callsIn_of_wp_marks Try.func32 rfl f1 ?_ hro
  simp only [Try.ntmps32, List.size_toArray, List.length_cons, List.length_nil, Nat.reduceAdd, Nat.reduceSub, Array.replicate_succ, Array.replicate_zero, List.push_toArray, List.append_toArray, List.nil_append, List.cons_append]
  gi_wp2_with (gi_at_call 56; refine (wordsOf_in F (n - 1) f2 hro _ _ _ _).mono ?_; rintro e w' ⟨rfl, rfl⟩)
  have htn : ((m : Int) / 8 + 2).toNat = m / 8 + 2 := by omega
  rw [htn] at hO1
  have hb2 := heap_alloc_new w1 (.cells #[.slice (some ⟨w.heap.size, 0, none⟩) 0 (m / 8 + 2)] 33)
  have hE12 : E w1 (w1.alloc (.cells #[.slice (some ⟨w.heap.size, 0, none⟩) 0 (m / 8 + 2)] 33)) := (E.refl _).alloc _
  have hz2 : (w1.alloc (.cells #[.slice (some ⟨w.heap.size, 0, none⟩) 0 (m / 8 + 2)] 33)).heap.size = w.heap.size + 1 + 1 := by rw [World.size_alloc, hz1]
  rw [hz1] at hb2
  have hO2 := hO1.e hE12
  generalize w1.alloc (.cells #[.slice (some ⟨w.heap.size, 0, none⟩) 0 (m / 8 + 2)] 33) = w2 at *
  have hb3 := heap_alloc_new w2 (.cells #[.slice A m c] 27)
  have hE23 : E w2 (w2.alloc (.cells #[.slice A m c] 27)) := (E.refl _).alloc _
  have hz3 : (w2.alloc (.cells #[.slice A m c] 27)).heap.size = w.heap.size + 1 + 1 + 1 := by rw [World.size_alloc, hz2]
  rw [hz2] at hb3
  have hO3 := hO2.e hE23
  have hbw : (w2.alloc (.cells #[.slice A m c] 27)).heap[w.heap.size + 1]? = _ := (hE23.block (k := w.heap.size + 1) (by omega)).trans hb2
  have hE3 : E w (w2.alloc (.cells #[.slice A m c] 27)) := (hE1.trans hE12).trans hE23
  generalize w2.alloc (.cells #[.slice A m c] 27) = w3 at *
  have hN3 := h.e hE3
  have hbox : w3.cell? ⟨w.heap.size + 1 + 1, 0, none⟩ = some (.slice A m c) := by rw [cell_of_row _ _ _ _ _ _ hb3]; rfl
  clear hmk hO1 hO2 hE12 hE23 hb2 hE1
  have hblk : blkOf A m (w.heap.size + 1 + 1) = w.heap.size + 1 + 1 ∨ blkOf A m (w.heap.size + 1 + 1) < w.heap.size := by
    unfold blkOf
    split
    · exact .inl rfl
    · rename_i hm0
      obtain ⟨b, o, rfl, hb, _⟩ := h.at_ (by omega)
      exact .inr hb
  refine wpIn_rangeFunc_ownF hro hn1 (gf := 75) (lb := #[.pointer (some ⟨w.heap.size + 1 + 1, 0, none⟩)]) rfl f3 (enters_of Try.func75 (by kernel_rfl) rfl)
    (words_stops F (n - 1) f3 hro (by omega) (w.heap.size + 1 + 1) A m c l (by omega) w3 (by omega) hbox hN3) K2.trans (fun W l o o' hl _ _ _ => K2.put W l o' (by omega) (by omega)) (Below.refl _ _) (fun _ => rfl)
    (fun pre W => WBox W (w.heap.size + 1) (w.heap.size + 1 + 1) w.heap.size A m c pre ∧ Below w.heap.size w W)
    (fun _ _ _ => False)
    (OwnFrom.and (Go.Own.from (fun s A B row hs hg hr => hs.kept hg hr) _) (ownFrom_below (Nat.le_refl _) (by omega)))
    (fun _ _ _ _ _ hs _ _ => hs)
    ⟨⟨_, _, hbw, hO3, hb3⟩, hE3⟩
    (fun x => { tmps := #[.string s, .slice A m c, undef, undef, .int .u64 0, .pointer (some ⟨w.heap.size + 1, 0, none⟩), .int .u64 x, .slice A m c, .int .i64 ↑m, .int .i64 (↑m / 8), .int .i64 (↑m / 8 + 2), .slice (some ⟨w.heap.size, 0, none⟩) 0 (m / 8 + 2), .slice A m c, .func (.func 75) #[] #[.pointer (some ⟨w.heap.size + 1 + 1, 0, none⟩)], .int .u64 x, undef, undef, undef, undef, undef, undef, undef, undef, undef, undef, undef, undef], defers := [] }) ?assign ?body ?done ?stop
  case assign =>
    intro ℓ x W K hK
    gi_wp2
    exact hK
  case body =>
    rintro ℓ pre x W ⟨⟨A', c', hbW, hOW, hbB⟩, hB⟩ hlt
    have hcW : W.cell? ⟨w.heap.size + 1, 0, none⟩ = some (.slice A' pre.length c') := by rw [cell_of_row _ _ _ _ _ _ hbW]; rfl
    have hpl : pre.length ≤ 1000000 := by unfold nWords at hlt; omega
    have hwx : (Lit.int .i64 (wrap64 x)).wf = true := wrap64_wf' x
    have hbs : w.heap.size ≤ W.heap.size := hB.size
    gi_wp2_with (gi_at_builtin; refine wpListIn_app1n intTk _ rfl _ _ rfl _ _ _ _ _ rfl hOW _ rfl hwx (by omega) hbs ?_; intro g' c2 w4 hO4 hG4 hB4; obtain ⟨hc4, hf4⟩ := wbox_step hbW hOW hG4)
    obtain ⟨hX1, hX2, hX3⟩ := wbox_next hbW hOW hbB hO4 hG4 (by omega)
    exact ⟨hX2, hX3 _ (by omega), hX1, hB.trans (hB4.setCell (p := ⟨w.heap.size + 1, 0, none⟩) (by simp) _)⟩
  case done =>
    rintro D ys W hD rfl ⟨⟨A', c', hbW, hOW, hbB⟩, hB⟩ hK
    have hcW : W.cell? ⟨w.heap.size + 1, 0, none⟩ = some (.slice A' (wordsL l).length c') := by rw [cell_of_row _ _ _ _ _ _ hbW]; rfl
    have hwl : (wordsL l).length ≤ 1000000 := by simp only [wordsL, List.length_map, List.length_range, nWords, h.len]; omega
    have hwm : (Lit.int .i64 (m : Int)).wf = true := wf_of_i64 (by omega) (by omega)
    have hbs : w.heap.size ≤ W.heap.size := hB.size
    have HK := Lib.hid hK
    clear hK
    gi_wp2_with (first
      | (gi_at_builtin; refine wpListIn_app1n intTk _ rfl _ _ rfl _ _ _ _ _ rfl hOW _ rfl hwm (by omega) hbs ?_; intro g' c2 w4 hO4 hG4 hB4)
      | (gi_at_call 57; refine (hsumc _ _ _ _ _ _ _ hs hO4.reads).mono ?_; rintro e w5 ⟨rfl, hE5⟩))
    have hK5 : w5.heap[D]? = some (.deferred (some [])) := by
      have hlt := blk_lt HK.out
      rw [hE5.block (Nat.lt_of_lt_of_le hlt hG4.size), hG4.block D hlt (fun e => ?_)]
      · exact HK.out
      · rcases hOW.2.1.2 with ⟨e', _⟩ | ⟨g, cap, cur, e', _, hgb, _⟩
        · rw [e'] at e; cases e
        · rw [e'] at e
          have : D = g := by simpa [Value.ownBlock] using e
          subst this
          rw [HK.out] at hgb; cases hgb
    refine ⟨by simp, .inl ⟨_, _, rfl, run_takeDeferred hK5, ?_⟩⟩
    exact ⟨_, results_tmp rfl _ _ _, rfl, ((hB.trans hB4).trans (Below.mono hE5 (Nat.le_trans hbs hG4.size))).trans (belowK_b (w := w) (Nat.le_refl _) _ D _ _ (by omega) hK5 rfl rfl)⟩
  case stop =>
    rintro D c pre W _ _ h _
    exact h.elim
def bytesS (s : ByteArray) (l : List Int) : Int := sumS s ((wordsL l).map wrap64 ++ [(l.length : Int)])
theorem bytes_c (s : ByteArray) (hs : s.size ≤ 1000) (A : Option Addr) (m c : Nat) (l : List Int) (w : World) (h : Nums .u8 w A m c l) (hm : m ≤ 1000000) :
    Calls Try.prog 32 #[.string s, .slice A m c] w fun e W' => e = .returned (.int .u64 (bytesS s l)) ∧ E w W' := by
  have := callsIn_wide.1 (bytes_in Fence.wide rfl trivial trivial trivial trivial (fun _ s A m c l W h1 h2 => callsIn_wide.2 (sum_c s h1 A m c l W h2)) 3 (Nat.le_refl _) s hs A m c l w h hm)
  rw [bytesS, h.len]
  exact this
end Go.Proofs.Ythcicfolabngcaa
/- The hash of up to 8 bytes is injective for lists of one length: plain. -/
namespace Go.Proofs.Ythcicfolabngcaa
open Go.RowKit

theorem xor_cancel_l {a b c : Nat} (h : a ^^^ b = a ^^^ c) : b = c := by
  have : a ^^^ (a ^^^ b) = a ^^^ (a ^^^ c) := by rw [h]
  rwa [← Nat.xor_assoc, ← Nat.xor_assoc, Nat.xor_self, Nat.zero_xor, Nat.zero_xor] at this
theorem xor_cancel_r {a b c : Nat} (h : b ^^^ a = c ^^^ a) : b = c := by
  rw [Nat.xor_comm b, Nat.xor_comm c] at h
  exact xor_cancel_l h
/-- m ^ m >> 32 -/
theorem xsh_inj {m n : Nat} (hm : m < 18446744073709551616) (hn : n < 18446744073709551616) (h : m ^^^ (m / 4294967296) = n ^^^ (n / 4294967296)) : m = n := by
  have key : ∀ x : Nat, x < 18446744073709551616 → (x ^^^ (x / 4294967296)) ^^^ ((x ^^^ (x / 4294967296)) / 4294967296) = x := fun x hx => by
    have e : ∀ y : Nat, y / 4294967296 = y >>> 32 := fun y => by rw [Nat.shiftRight_eq_div_pow]
    simp only [e]
    rw [Nat.shiftRight_xor_distrib, show x >>> 32 >>> 32 = 0 by rw [← Nat.shiftRight_add, Nat.shiftRight_eq_div_pow]; exact Nat.div_eq_of_lt (by omega), Nat.xor_zero, Nat.xor_assoc, Nat.xor_self, Nat.xor_zero]
  rw [← key m hm, ← key n hn, h]
/-- x * factor in one word -/
theorem mul_inj {m n : Nat} (hm : m < 18446744073709551616) (hn : n < 18446744073709551616) (h : m * 11400714819323198485 % 18446744073709551616 = n * 11400714819323198485 % 18446744073709551616) : m = n := by
  have key : ∀ x : Nat, x < 18446744073709551616 → (x * 11400714819323198485 % 18446744073709551616) * 17428512612931826493 % 18446744073709551616 = x := fun x hx => by
    have hFG : (11400714819323198485 * 17428512612931826493 : Nat) % 18446744073709551616 = 1 := by decide +kernel
    rw [Nat.mod_mul_mod, Nat.mul_assoc, Nat.mul_mod, hFG, Nat.mul_one, Nat.mod_mod, Nat.mod_eq_of_lt hx]
  rw [← key m hm, ← key n hn, h]
def InU (x : Int) : Prop := 0 ≤ x ∧ x ≤ 18446744073709551615
theorem mixV_nat {a b : Int} (ha : InU a) (hb : InU b) : mixV a b = (((a.toNat ^^^ b.toNat) * 11400714819323198485 % 18446744073709551616) ^^^ ((a.toNat ^^^ b.toNat) * 11400714819323198485 % 18446744073709551616 / 4294967296) : Nat) := by
  obtain ⟨a0, a1⟩ := ha
  obtain ⟨b0, b1⟩ := hb
  obtain ⟨m, rfl⟩ : ∃ m : Nat, a = m := ⟨a.toNat, by omega⟩
  obtain ⟨n, rfl⟩ : ∃ n : Nat, b = n := ⟨b.toNat, by omega⟩
  have hx : m ^^^ n < 2 ^ 64 := Nat.xor_lt_two_pow (by omega) (by omega)
  simp only [Int.toNat_natCast]
  unfold mixV mulF
  rw [bits_xor_u64_nat m n (by omega) (by omega), IntKind.wrap_u64]
  generalize m ^^^ n = y at *
  rw [show ((y : Int) * 11400714819323198485 % 18446744073709551616) = ((y * 11400714819323198485 % 18446744073709551616 : Nat) : Int) by omega]
  have hz : y * 11400714819323198485 % 18446744073709551616 < 18446744073709551616 := Nat.mod_lt _ (by decide)
  generalize y * 11400714819323198485 % 18446744073709551616 = z at *
  rw [show ((z : Int) / 4294967296) = ((z / 4294967296 : Nat) : Int) by omega, bits_xor_u64_nat z _ hz (by omega)]
theorem mixV_core {a b c d : Int} (ha : InU a) (hb : InU b) (hc : InU c) (hd : InU d) (h : mixV a b = mixV c d) : a.toNat ^^^ b.toNat = c.toNat ^^^ d.toNat := by
  rw [mixV_nat ha hb, mixV_nat hc hd] at h
  have h := Int.ofNat.inj h
  have hx : a.toNat ^^^ b.toNat < 2 ^ 64 := Nat.xor_lt_two_pow (by have := ha.2; have := ha.1; omega) (by have := hb.2; have := hb.1; omega)
  have hy : c.toNat ^^^ d.toNat < 2 ^ 64 := Nat.xor_lt_two_pow (by have := hc.2; have := hc.1; omega) (by have := hd.2; have := hd.1; omega)
  exact mul_inj (by omega) (by omega) (xsh_inj (Nat.mod_lt _ (by decide)) (Nat.mod_lt _ (by decide)) h)
theorem mixV_inj_r {a b c : Int} (ha : InU a) (hb : InU b) (hc : InU c) (h : mixV a b = mixV a c) : b = c := by
  have := xor_cancel_l (mixV_core ha hb ha hc h)
  obtain ⟨h1, _⟩ := hb; obtain ⟨h2, _⟩ := hc; omega
theorem mixV_inj_l {a b c : Int} (ha : InU a) (hb : InU b) (hc : InU c) (h : mixV b a = mixV c a) : b = c := by
  have := xor_cancel_r (mixV_core hb ha hc ha h)
  obtain ⟨h1, _⟩ := hb; obtain ⟨h2, _⟩ := hc; omega
theorem mixV_in (a b : Int) : InU (mixV a b) := mixV_range a b
/-- the bytes as a number, the first the lowest -/
def leV : List Nat → Nat
  | [] => 0
  | c :: r => c + 256 * leV r
theorem leV_inj : ∀ (l m : List Nat), l.length = m.length → (∀ x ∈ l, x < 256) → (∀ x ∈ m, x < 256) → leV l = leV m → l = m
  | [], [], _, _, _, _ => rfl
  | [], _ :: _, h, _, _, _ => by simp at h
  | _ :: _, [], h, _, _, _ => by simp at h
  | a :: l, b :: m, h, h1, h2, h3 => by
    have ha := h1 a (by simp)
    have hb := h2 b (by simp)
    simp only [leV] at h3
    have e : a = b := by omega
    subst e
    rw [leV_inj l m (by simpa using h) (fun x hx => h1 x (by simp [hx])) (fun x hx => h2 x (by simp [hx])) (by omega)]
theorem leV_lt : ∀ l : List Nat, (∀ x ∈ l, x < 256) → leV l < 256 ^ l.length
  | [], _ => by simp [leV]
  | a :: l, h => by
    have ha := h a (by simp)
    have := leV_lt l (fun x hx => h x (by simp [hx]))
    rw [leV, List.length_cons, Nat.pow_succ]
    omega
theorem wordF_nat : ∀ (l : List Nat) (acc i : Nat), (∀ x ∈ l, x < 256) → acc < 2 ^ (8 * i) → i + l.length ≤ 8 → wordF (acc : Int) i (l.map fun x : Nat => (x : Int)) = ((acc + 2 ^ (8 * i) * leV l : Nat) : Int)
  | [], acc, i, _, _, _ => by simp [wordF, leV]
  | c :: r, acc, i, h, ha, hl => by
    have hc := h c (by simp)
    rw [List.length_cons] at hl
    have hp : 2 ^ (8 * (i + 1)) = 2 ^ (8 * i) * 256 := by rw [show 8 * (i + 1) = 8 * i + 8 by omega, Nat.pow_add]
    have hp64 : 2 ^ (8 * (i + 1)) ≤ 2 ^ 64 := Nat.pow_le_pow_right (by decide) (by omega)
    have hcm : c * 2 ^ (8 * i) + 2 ^ (8 * i) ≤ 2 ^ (8 * (i + 1)) := by
      rw [hp, Nat.mul_comm c, ← Nat.mul_succ]
      exact Nat.mul_le_mul_left _ (by omega)
    simp only [List.map_cons, wordF]
    have e1 : ((c : Int) * 2 ^ (8 * i)) = ((c * 2 ^ (8 * i) : Nat) : Int) := by push_cast; rfl
    have e2 : IntKind.u64.wrap (((c * 2 ^ (8 * i) : Nat) : Int)) = ((c * 2 ^ (8 * i) : Nat) : Int) := by
      rw [IntKind.wrap_u64]
      have : c * 2 ^ (8 * i) < 2 ^ 64 := by
        have := Nat.pow_pos (n := 8 * i) (show 0 < 2 by decide)
        omega
      omega
    rw [e1, e2, bits_or_u64_nat acc _ (by omega) (by omega)]
    have e3 : acc ||| c * 2 ^ (8 * i) = acc + c * 2 ^ (8 * i) := by
      have := Nat.shiftLeft_add_eq_or_of_lt ha c
      rw [Nat.shiftLeft_eq] at this
      rw [Nat.or_comm, ← this, Nat.add_comm]
    rw [e3, wordF_nat r (acc + c * 2 ^ (8 * i)) (i + 1) (fun x hx => h x (by simp [hx])) (by omega) (by omega)]
    congr 1
    rw [leV, hp, Nat.mul_add, Nat.mul_comm c, Nat.mul_assoc]
    omega
theorem bytes_nat {l : List Int} (h : ∀ x ∈ l, (Lit.int .u8 x).wf = true) : ∃ m : List Nat, l = m.map (fun x : Nat => (x : Int)) ∧ ∀ x ∈ m, x < 256 := by
  refine ⟨l.map Int.toNat, ?_, fun x hx => ?_⟩
  · rw [List.map_map]
    conv => lhs; rw [← List.map_id l]
    refine List.map_congr_left fun x hx => ?_
    have := wf_u8 (h x hx)
    simp only [id, Function.comp]
    omega
  · obtain ⟨y, hy, rfl⟩ := List.mem_map.1 hx
    have := wf_u8 (h y hy)
    omega
theorem wordAt_inj {l m : List Int} (hl : ∀ x ∈ l, (Lit.int .u8 x).wf = true) (hm : ∀ x ∈ m, (Lit.int .u8 x).wf = true) (h8 : l.length ≤ 8) (he : l.length = m.length) (h : wordAt l 0 = wordAt m 0) : l = m := by
  obtain ⟨a, rfl, ha⟩ := bytes_nat hl
  obtain ⟨b, rfl, hb⟩ := bytes_nat hm
  simp only [List.length_map] at h8 he
  unfold wordAt at h
  rw [Nat.mul_zero, List.drop_zero, List.drop_zero, List.take_of_length_le (by simpa using h8), List.take_of_length_le (by rw [List.length_map, ← he]; exact h8)] at h
  have e1 := wordF_nat a 0 0 ha (by decide) (by omega)
  have e2 := wordF_nat b 0 0 hb (by decide) (by omega)
  rw [show ((0 : Nat) : Int) = 0 from rfl] at e1 e2
  rw [e1, e2] at h
  have h := Int.ofNat.inj h
  rw [leV_inj a b he ha hb (by simpa using h)]
theorem wordAt_in {l : List Int} (hl : ∀ x ∈ l, (Lit.int .u8 x).wf = true) (h8 : l.length ≤ 8) : InU (wordAt l 0) := by
  obtain ⟨a, rfl, ha⟩ := bytes_nat hl
  simp only [List.length_map] at h8
  unfold wordAt
  rw [Nat.mul_zero, List.drop_zero, List.take_of_length_le (by simpa using h8)]
  have e1 := wordF_nat a 0 0 ha (by decide) (by omega)
  rw [show ((0 : Nat) : Int) = 0 from rfl] at e1
  rw [e1]
  have h1 := leV_lt a ha
  have h2 : 256 ^ a.length ≤ 256 ^ 8 := Nat.pow_le_pow_right (by decide) h8
  unfold InU
  simp only [Nat.mul_zero, Nat.pow_zero, Nat.one_mul, Nat.zero_add]
  omega
theorem words1 {l : List Int} (h1 : 1 ≤ l.length) (h8 : l.length ≤ 8) : wordsL l = [wordAt l 0] := by
  unfold wordsL nWords
  rw [show (l.length + 7) / 8 = 1 by omega]
  rfl
theorem wrap_word {x : Int} (h : InU x) : IntKind.u64.wrap (wrap64 x) = x := by
  obtain ⟨h0, h1⟩ := h
  rw [IntKind.wrap_u64]
  unfold wrap64
  omega
theorem foldl_in (l : List Int) (a : Int) (h : InU a) : InU (l.foldl mixV a) := by
  induction l generalizing a with
  | nil => exact h
  | cons x r ih => exact ih _ (mixV_in _ _)
theorem bytesS_inj {s : ByteArray} {l m : List Int} (hl : ∀ x ∈ l, (Lit.int .u8 x).wf = true) (hm : ∀ x ∈ m, (Lit.int .u8 x).wf = true) (h1 : 1 ≤ l.length) (h8 : l.length ≤ 8) (he : l.length = m.length) (h : bytesS s l = bytesS s m) : l = m := by
  unfold bytesS sumS at h
  rw [words1 (l := l) h1 h8, words1 (l := m) (by omega) (by omega), ← he] at h
  simp only [List.map_cons, List.map_nil, List.cons_append, List.nil_append, List.foldl_cons, List.foldl_nil, List.length_cons, List.length_nil] at h
  rw [wrap_word (wordAt_in hl h8), wrap_word (wordAt_in hm (by omega))] at h
  have hI : ∀ x : Int, InU (IntKind.u64.wrap x) := fun x => wrapU_range x
  have h := mixV_inj_l (show InU 0 from ⟨by decide, by decide⟩) (mixV_in _ _) (mixV_in _ _) h
  have h := mixV_inj_l (hI _) (mixV_in _ _) (mixV_in _ _) h
  have h := mixV_inj_r (mixV_in _ _) (wordAt_in hl h8) (wordAt_in hm (by omega)) h
  exact wordAt_inj hl hm h8 he h
end Go.Proofs.Ythcicfolabngcaa
