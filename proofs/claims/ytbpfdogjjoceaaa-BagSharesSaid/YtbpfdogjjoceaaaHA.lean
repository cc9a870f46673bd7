/- hash.mix and the iterator of the words of a byte slice. -/
import Derived.RangeFuncNested
import Derived.RangeFuncBound
import Derived.RangeFuncCalls
import Derived.RangeFuncLeaves
import Derived.RangeFuncFrom
import Derived.Shelf.Abstract
import Derived.Shelf.RegionOpen
import Derived.WalkKit
import Derived.OwnWalkIn
import Derived.TacticsInMore
import Derived.LoopNIn
import Derived.LoopIn
import Derived.Laws.Bits64b
import Derived.Test.YtbpfdogjjoceaaaChecked
import Derived.Test.YtbpfdogjjoceaaaMW
import Derived.Test.YtbpfdogjjoceaaaP
namespace Go.Proofs.Ytbpfdogjjoceaaa
open Go.RowKit Go.Shelf
attribute [local go_sem] Oper.semAt_some

def mulF (a b : Int) : Int := IntKind.u64.wrap (bits .xor .u64 a b * 11400714819323198485)
def mixV (a b : Int) : Int := bits .xor .u64 (mulF a b) (mulF a b / 4294967296)
theorem wrapU_range (x : Int) : 0 ≤ IntKind.u64.wrap x ∧ IntKind.u64.wrap x ≤ 18446744073709551615 := by rw [IntKind.wrap_u64]; omega
theorem mulF_range (a b : Int) : 0 ≤ mulF a b ∧ mulF a b ≤ 18446744073709551615 := wrapU_range _
theorem bits_range (op : BinOp) (a b : Int) (h : op = .xor ∨ op = .or) : 0 ≤ bits op .u64 a b ∧ bits op .u64 a b ≤ 18446744073709551615 := by
  rcases h with rfl | rfl
  · exact wrapU_range _
  · exact wrapU_range _
theorem mixV_range (a b : Int) : 0 ≤ mixV a b ∧ mixV a b ≤ 18446744073709551615 := bits_range .xor _ _ (.inl rfl)

set_option maxHeartbeats 400000 in
theorem mix_c (a b : Int) (w : World) : Calls Try.prog 91 #[.int .u64 a, .int .u64 b] w fun e w' => e = .returned (.int .u64 (mixV a b)) ∧ w = w' := by
  obtain ⟨m, hm⟩ : ∃ m, IntKind.u64.wrap (bits .xor .u64 a b * 11400714819323198485) = m := ⟨_, rfl⟩
  have hr := wrapU_range (bits .xor .u64 a b * 11400714819323198485)
  rw [hm] at hr
  obtain ⟨m0, m1⟩ := hr
  have HM := Lib.hid (show mixV a b = bits .xor .u64 m (m / 4294967296) by rw [mixV, mulF, hm])
  generalize mixV a b = v at *
  go_enter Try.func91, Try.ntmps91
  go_wp2
  go_ret
  exact ⟨ret_int HM.out.symm, rfl⟩

/-- a word out of bytes, the first the lowest -/
def wordF (acc : Int) (i : Nat) : List Int → Int
  | [] => acc
  | c :: r => wordF (bits .or .u64 acc (IntKind.u64.wrap (c * 2 ^ (8 * i)))) (i + 1) r
def wordAt (bs : List Int) (k : Nat) : Int := wordF 0 0 ((bs.drop (8 * k)).take 8)
def nWords (n : Nat) : Nat := (n + 7) / 8
def wordsL (bs : List Int) : List Int := (List.range (nWords bs.length)).map (wordAt bs)
def uptoW (bs : List Int) (k : Nat) : List Int := (List.range k).map (wordAt bs)
theorem uptoW_succ (bs : List Int) (k : Nat) : uptoW bs (k + 1) = uptoW bs k ++ [wordAt bs k] := by simp [uptoW, List.range_succ]
theorem uptoW_len (bs : List Int) (k : Nat) : (uptoW bs k).length = k := by simp [uptoW]

/-- two blocks stay as they are -/
def K2 (b c : Nat) (W W' : World) : Prop := W'.heap[b]? = W.heap[b]? ∧ W'.heap[c]? = W.heap[c]?
theorem K2.refl (b c : Nat) (W : World) : K2 b c W W := ⟨rfl, rfl⟩
theorem K2.trans {b c : Nat} {A B C : World} (h : K2 b c A B) (k : K2 b c B C) : K2 b c A C := ⟨k.1.trans h.1, k.2.trans h.2⟩
theorem K2.cell1 {b c : Nat} {A B : World} (h : K2 b c A B) (o : Nat) : B.cell? ⟨b, o, none⟩ = A.cell? ⟨b, o, none⟩ := World.cell?_of_block h.1
theorem K2.cell2 {b c : Nat} {A B : World} (h : K2 b c A B) (o : Nat) : B.cell? ⟨c, o, none⟩ = A.cell? ⟨c, o, none⟩ := World.cell?_of_block h.2

set_option maxRecDepth 100000 in
set_option maxHeartbeats 2000000 in
/-- the closure: for every loop body that keeps what lay below n0 -/
theorem words1_in (F : Fence) (n : Nat) (h7 : F.fn 90) (hro : F.round = none) (hn : 1 ≤ n) (l Bs b off len cap : Nat) (bs : List Int) (hreach : len ≤ 1099511627776) (hlc : len ≤ cap) (hl : bs.length = len) (hwf : ∀ x ∈ bs, 0 ≤ x ∧ x ≤ 255) (J Jx : List Int → World → Prop)
    (hY : ∀ pre x W, J pre W → pre.length < nWords len → YieldAt F (n - 1) Try.prog l #[.int .u64 x] W fun e W' =>
      (e = .returned (.bool true) ∧ J (pre ++ [x]) W' ∧ K2 b Bs W W') ∨ (e = .returned (.bool false) ∧ Jx (pre ++ [x]) W'))
    (W : World) (hBs : W.cell? ⟨Bs, 0, none⟩ = some (.slice (some ⟨b, off, none⟩) len cap)) (hc : ∀ j x, bs[j]? = some x → W.cell? ⟨b, off + j, none⟩ = some (.int .u8 x)) (h0 : J [] W) :
    CallsIn F n Try.prog 90 #[.func (.yield l) #[] #[], .pointer (some ⟨Bs, 0, none⟩)] W fun e W' => (∃ v, e = .returned v) ∧
      ((∃ ys, ys = uptoW bs (nWords len) ∧ J ys W') ∨ (∃ pre, (∃ k, k ≤ nWords len ∧ pre = uptoW bs k) ∧ Jx pre W')) := by
  refine callsIn_of_wp Try.func90 rfl h7 ?_ hro
  simp only [Try.ntmps90, List.size_toArray, List.length_cons, List.length_nil, Nat.reduceAdd, Nat.reduceSub, Array.replicate_succ, Array.replicate_zero, List.push_toArray, List.append_toArray, List.nil_append, List.cons_append]
  gi_wp2
  have HC := Lib.hid hc
  have HW := Lib.hid hwf
  have HLb := Lib.hid hl
  clear hc hwf
  gi_loopw [3] (fun i wr => ∃ k p : Nat, k ≤ nWords len ∧ Hid (p = 8 * k) ∧ i = .int .i64 p ∧ J (uptoW bs k) wr ∧ K2 b Bs W wr)
    (fun i _ => len + 8 - (intOf i).toNat)
  case atStart => exact ⟨0, 0, Nat.zero_le _, rfl, rfl, h0, K2.refl _ _ _⟩
  case round =>
    obtain ⟨k, p, hk, HP, rfl, hJs, hnx⟩ := hrel
    have hBs' : wr.cell? ⟨Bs, 0, none⟩ = some (.slice (some ⟨b, off, none⟩) len cap) := (hnx.cell2 0).trans hBs
    have hp8 : p = 8 * k := HP.out
    have hpk : p ≤ len + 8 := by rw [hp8]; unfold nWords at hk; omega
    by_cases hlt : p < len
    · have hltI : (p : Int) < (len : Int) := by omega
      have hkn : k < nWords len := by unfold nWords; omega
      clear hp8
      by_cases h8 : p + 8 ≤ len
      · have h8I : (p : Int) + 8 ≤ (len : Int) := by omega
        gi_wp2
        gi_loopw [4, 22] (fun tv ti w2 => ∃ (j : Nat) (acc : Int), j ≤ 8 ∧ ti = .int .i64 j ∧ tv = .int .u64 acc ∧ 0 ≤ acc ∧ acc ≤ 18446744073709551615 ∧ Hid (wordF acc j (((bs.drop p).take 8).drop j) = wordAt bs k) ∧ w2 = wr) (fun _ ti _ => 8 - (intOf ti).toNat)
        case atStart => exact ⟨0, 0, Nat.zero_le _, rfl, rfl, by omega, by omega, show _ = _ by rw [HP.out]; rfl, rfl⟩
        case round =>
          obtain ⟨wq, hwq⟩ : ∃ wq : World, wq = wr := ⟨_, rfl⟩
          obtain ⟨j, acc, hj, rfl, rfl, a0, a1, hW, hw2⟩ := hrel
          subst hw2
          by_cases hjM : j < 8
          · obtain ⟨x, hx⟩ : ∃ x, bs[p + j]? = some x := ⟨bs[p + j]'(by omega), List.getElem?_eq_getElem (by omega)⟩
            obtain ⟨x0, x1⟩ := HW.out x (List.mem_of_getElem? hx)
            have hcx : wr.cell? ⟨b, off + p + j, none⟩ = some (.int .u8 x) := by
              rw [Nat.add_assoc]; exact (hnx.cell1 _).trans (HC.out _ x hx)
            have HD := Lib.hid (show ((bs.drop p).take 8).drop j = x :: ((bs.drop p).take 8).drop (j + 1) by
              refine drop_at ?_
              rw [List.getElem?_take_of_lt (by omega), List.getElem?_drop]; exact hx)
            obtain ⟨acc', hacc⟩ : ∃ a, bits .or .u64 acc (IntKind.u64.wrap (x * 2 ^ (8 * j))) = a := ⟨_, rfl⟩
            have hbr := bits_range .or acc (IntKind.u64.wrap (x * 2 ^ (8 * j))) (.inr rfl)
            rw [hacc] at hbr
            obtain ⟨br0, br1⟩ := hbr
            have HA' := Lib.hid hacc
            clear hx
            gi_wp2
            go_roundw
            case rel => exact ⟨j + 1, acc', by omega, by go_num, rfl, br0, br1, show _ = _ by rw [← hW.out, HD.out, wordF, HA'.out], by first | trivial | rfl⟩
            case measure => simp [intOf]; omega
          · have hword : acc = wordAt bs k := by
              rw [← hW.out, List.drop_eq_nil_of_le (by rw [List.length_take, List.length_drop]; omega)]; rfl
            clear hW
            obtain ⟨fn, tmps, assign, body, hy, hR⟩ := hY (uptoW bs k) acc wr hJs (by rw [uptoW_len]; exact hkn)
            have HWd := Lib.hid hword
            clear hword
            gi_wp2
            refine hR.mono ?_
            rintro e W3 (⟨rfl, hJ3, hk3⟩ | ⟨rfl, hJx3⟩)
            · gi_wp2
              go_roundw
              case rel => exact ⟨k + 1, p + 8, hkn, show _ = _ by rw [HP.out]; omega, by go_num, by rw [uptoW_succ, ← HWd.out]; exact hJ3, hnx.trans hk3⟩
              case measure => simp [intOf]; omega
            · gi_wp2
              refine bodyPost_ret (results_none rfl _ _ _) rfl ?_
              exact ⟨⟨_, rfl⟩, .inr ⟨_, ⟨k + 1, hkn, by rw [uptoW_succ, ← HWd.out]⟩, hJx3⟩⟩
      · have h8I : ¬ (p : Int) + 8 ≤ (len : Int) := by omega
        gi_wp2
        gi_loopw [4, 22] (fun tv ti w2 => ∃ (j : Nat) (acc : Int), j ≤ (len - p) ∧ ti = .int .i64 j ∧ tv = .int .u64 acc ∧ 0 ≤ acc ∧ acc ≤ 18446744073709551615 ∧ Hid (wordF acc j (((bs.drop p).take 8).drop j) = wordAt bs k) ∧ w2 = wr) (fun _ ti _ => (len - p) - (intOf ti).toNat)
        case atStart => exact ⟨0, 0, Nat.zero_le _, rfl, rfl, by omega, by omega, show _ = _ by rw [HP.out]; rfl, rfl⟩
        case round =>
          obtain ⟨wq, hwq⟩ : ∃ wq : World, wq = wr := ⟨_, rfl⟩
          obtain ⟨j, acc, hj, rfl, rfl, a0, a1, hW, hw2⟩ := hrel
          subst hw2
          by_cases hjM : j < (len - p)
          · obtain ⟨x, hx⟩ : ∃ x, bs[p + j]? = some x := ⟨bs[p + j]'(by omega), List.getElem?_eq_getElem (by omega)⟩
            obtain ⟨x0, x1⟩ := HW.out x (List.mem_of_getElem? hx)
            have hcx : wr.cell? ⟨b, off + p + j, none⟩ = some (.int .u8 x) := by
              rw [Nat.add_assoc]; exact (hnx.cell1 _).trans (HC.out _ x hx)
            have HD := Lib.hid (show ((bs.drop p).take 8).drop j = x :: ((bs.drop p).take 8).drop (j + 1) by
              refine drop_at ?_
              rw [List.getElem?_take_of_lt (by omega), List.getElem?_drop]; exact hx)
            obtain ⟨acc', hacc⟩ : ∃ a, bits .or .u64 acc (IntKind.u64.wrap (x * 2 ^ (8 * j))) = a := ⟨_, rfl⟩
            have hbr := bits_range .or acc (IntKind.u64.wrap (x * 2 ^ (8 * j))) (.inr rfl)
            rw [hacc] at hbr
            obtain ⟨br0, br1⟩ := hbr
            have HA' := Lib.hid hacc
            clear hx
            gi_wp2
            go_roundw
            case rel => exact ⟨j + 1, acc', by omega, by go_num, rfl, br0, br1, show _ = _ by rw [← hW.out, HD.out, wordF, HA'.out], by first | trivial | rfl⟩
            case measure => simp [intOf]; omega
          · have hword : acc = wordAt bs k := by
              rw [← hW.out, List.drop_eq_nil_of_le (by rw [List.length_take, List.length_drop]; omega)]; rfl
            clear hW
            obtain ⟨fn, tmps, assign, body, hy, hR⟩ := hY (uptoW bs k) acc wr hJs (by rw [uptoW_len]; exact hkn)
            have HWd := Lib.hid hword
            clear hword
            gi_wp2
            refine hR.mono ?_
            rintro e W3 (⟨rfl, hJ3, hk3⟩ | ⟨rfl, hJx3⟩)
            · gi_wp2
              go_roundw
              case rel => exact ⟨k + 1, p + 8, hkn, show _ = _ by rw [HP.out]; omega, by go_num, by rw [uptoW_succ, ← HWd.out]; exact hJ3, hnx.trans hk3⟩
              case measure => simp [intOf]; omega
            · gi_wp2
              refine bodyPost_ret (results_none rfl _ _ _) rfl ?_
              exact ⟨⟨_, rfl⟩, .inr ⟨_, ⟨k + 1, hkn, by rw [uptoW_succ, ← HWd.out]⟩, hJx3⟩⟩
    · have hke : k = nWords len := by unfold nWords at hk ⊢; omega
      clear hp8
      have HK := Lib.hid hke
      clear hke
      gi_wp2
      go_end0
      exact ⟨⟨_, rfl⟩, .inl ⟨_, rfl, by rw [← HK.out]; exact hJs⟩⟩

set_option maxRecDepth 100000 in
set_option maxHeartbeats 1000000 in
/-- no byte: no round -/
theorem words0_in (F : Fence) (n : Nat) (h7 : F.fn 90) (hro : F.round = none) (l Bs cap : Nat) (A : Option Addr) (J : List Int → World → Prop) (W : World) (hBs : W.cell? ⟨Bs, 0, none⟩ = some (.slice A 0 cap)) (h0 : J [] W) :
    CallsIn F n Try.prog 90 #[.func (.yield l) #[] #[], .pointer (some ⟨Bs, 0, none⟩)] W fun e W' => (∃ v, e = .returned v) ∧ J [] W' := by
  refine callsIn_of_wp Try.func90 rfl h7 ?_ hro
  simp only [Try.ntmps90, List.size_toArray, List.length_cons, List.length_nil, Nat.reduceAdd, Nat.reduceSub, Array.replicate_succ, Array.replicate_zero, List.push_toArray, List.append_toArray, List.nil_append, List.cons_append]
  gi_wp2
  gi_loopw [3] (fun i wr => i = .int .i64 0 ∧ wr = W) (fun _ _ => 0)
  case atStart => exact ⟨rfl, rfl⟩
  case round =>
    obtain ⟨rfl, rfl⟩ := hrel
    gi_wp2
    go_end0
    exact ⟨⟨_, rfl⟩, h0⟩
set_option maxHeartbeats 1000000 in
theorem wordsOf_in (F : Fence) (n : Nat) (h5 : F.fn 76) (hro : F.round = none) (a : Option Addr) (len cap : Nat) (w : World) :
    CallsIn F n Try.prog 76 #[.slice a len cap] w fun e w' => e = .returned (.func (.func 90) #[] #[.pointer (some ⟨w.heap.size, 0, none⟩)]) ∧ w' = w.alloc (.cells #[.slice a len cap] 47) := by
  refine callsIn_of_wp Try.func76 rfl h5 ?_ hro
  simp only [Try.ntmps76, List.size_toArray, List.length_cons, List.length_nil, Nat.reduceAdd, Nat.reduceSub, Array.replicate_succ, Array.replicate_zero, List.push_toArray, List.append_toArray, List.nil_append, List.cons_append]
  gi_wp2
  go_ret
  exact ⟨rfl, rfl⟩
/-- the block of a slice's bytes (the box itself where there is none) -/
def blkOf (A : Option Addr) (n Bs : Nat) : Nat := if n = 0 then Bs else (A.map (·.block)).getD Bs
theorem words_stops (F : Fence) (n : Nat) (h7 : F.fn 90) (hro : F.round = none) (hn : 1 ≤ n) (Bs : Nat) (A : Option Addr) (len cap : Nat) (bs : List Int) (hreach : len ≤ 1099511627776) (w : World) (hBs : Bs < w.heap.size)
    (hc : w.cell? ⟨Bs, 0, none⟩ = some (.slice A len cap)) (hI : Nums .u8 w A len cap bs) :
    SeqStopsK F n Try.prog 90 #[.pointer (some ⟨Bs, 0, none⟩)] (fun x : Int => #[Value.int .u64 x]) (K2 (blkOf A len Bs) Bs) (fun ys => ys = wordsL bs) (fun _ => True) (nWords len) w := fun l J Jx W hW _ _ hY h0 => by
  have hc' := (hW.cell (p := ⟨Bs, 0, none⟩) hBs).trans hc
  have hI' := hI.e hW
  rcases Nat.eq_zero_or_pos len with h0' | h0'
  · subst h0'
    have hb : bs = [] := List.eq_nil_of_length_eq_zero hI.len
    subst hb
    exact (words0_in F n h7 hro l Bs cap A J W hc' h0).mono fun e W' ⟨he, hj⟩ => ⟨he, .inl ⟨[], rfl, hj⟩⟩
  · obtain ⟨b, off, rfl, _, hcs⟩ := hI'.at_ h0'
    have hbk : blkOf (some ⟨b, off, none⟩) len Bs = b := by unfold blkOf; rw [if_neg (by omega)]; rfl
    rw [hbk] at hY
    refine (words1_in F n h7 hro hn l Bs b off len cap bs hreach hI.cap hI.len (fun x hx => wf_u8 (hI.wf x hx)) J Jx hY W hc' (fun j x hx => by
      obtain ⟨hj, rfl⟩ := List.getElem?_eq_some_iff.1 hx
      exact hcs j hj) h0).mono ?_
    rintro e W' ⟨he, ⟨ys, rfl, hj⟩ | ⟨pre, _, hj⟩⟩
    · exact ⟨he, .inl ⟨_, by rw [wordsL, hI.len]; rfl, hj⟩⟩
    · exact ⟨he, .inr ⟨_, trivial, hj⟩⟩
end Go.Proofs.Ytbpfdogjjoceaaa
