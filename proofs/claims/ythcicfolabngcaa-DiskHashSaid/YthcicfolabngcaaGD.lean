/- Lemmas of the claim, joined: DOne FB DZ. No condition. -/
import Derived.Test.YthcicfolabngcaaGA
import Derived.Deep.Slices
import Derived.Deep.Fields
import Derived.ChangeSame
import Derived.ProofKit
import Derived.Test.YthcicfolabngcaaGC
/- A disk of which one file alone bears bytes; what a crash leaves of every file: plain. -/
namespace Go.Proofs.Ythcicfolabngcaa

/-- file f alone bears bytes; the power is on, nothing is planned -/
structure OneS (f room : Int) (all : List Int) (firm : Nat) (s : DS) : Prop where
  b : ∀ j, j ≠ f → s.b j = []
  at_ : s.b f = all
  firm : s.firm f = firm
  off : s.off = false
  plan : s.plan = -1
  room : s.room = room
theorem OneS.used {f room : Int} {all : List Int} {firm : Nat} {s : DS} (h : OneS f room all firm s) (hf : isF f = true) : usedF s.b = all.length := by
  have h1 : s.b = upd (fun _ => []) f (s.b f) := by
    funext j
    by_cases e : j = f
    · rw [e, upd_same]
    · rw [upd_other _ _ e]; exact h.b j e
  have := usedF_upd (fun _ => []) (i := f) (s.b f) hf
  rw [← h1, usedF_nil] at this
  simp at this
  rw [this, h.at_]
theorem OneS.stay {f room : Int} {all : List Int} {firm : Nat} {s : DS} (h : OneS f room all firm s) : stepS s = s := by
  unfold stepS; rw [if_pos (by rw [h.plan]; decide)]
theorem OneS.zero (f room : Int) : OneS f room [] 0 (newS room) := ⟨fun _ _ => rfl, rfl, rfl, rfl, rfl, rfl⟩
theorem OneS.app {f room : Int} {all : List Int} {firm : Nat} {s : DS} (h : OneS f room all firm s) (hf : isF f = true) (l : List Int) (hl : ((all.length + l.length : Nat) : Int) ≤ room) :
    (appR s f l).1 = 0 ∧ OneS f room (all ++ l) firm (appR s f l).2 := by
  unfold appR
  rw [if_neg (by rw [hf]; decide), if_neg (by rw [h.off]; decide), if_neg (by rw [h.used hf, h.room]; omega), h.stay, if_neg (by rw [h.off]; decide)]
  refine ⟨rfl, ⟨fun j hj => ?_, ?_, h.firm, h.off, h.plan, h.room⟩⟩
  · simp only [appS]; rw [upd_other _ _ hj]; exact h.b j hj
  · simp only [appS, upd_same, h.at_]
theorem OneS.sync {f room : Int} {all : List Int} {firm : Nat} {s : DS} (h : OneS f room all firm s) : OneS f room all all.length (syncR s).2 := by
  unfold syncR
  rw [if_neg (by rw [h.off]; decide), h.stay, if_neg (by rw [h.off]; decide)]
  exact ⟨h.b, h.at_, by show (s.b f).length = _; rw [h.at_], h.off, h.plan, h.room⟩
theorem OneS.live {f room : Int} {all : List Int} {firm : Nat} {s : DS} (h : OneS f room all firm s) (ok : DOk s) : liveI s.b = if all = [] then [] else [f] := by
  have h1 : ∀ x, x ∈ liveI s.b ↔ x = f ∧ all ≠ [] := fun x => by
    rw [mem_liveI ok]
    constructor
    · intro hx
      by_cases e1 : x = f
      · exact ⟨e1, by rw [← h.at_, ← e1]; exact hx⟩
      · exact absurd (h.b x e1) hx
    · rintro ⟨rfl, hx⟩; rw [h.at_]; exact hx
  have h2 := liveI_nodup s.b
  cases hq : liveI s.b with
  | nil =>
    by_cases e : all = []
    · rw [if_pos e]
    · have := (h1 f).2 ⟨rfl, e⟩; rw [hq] at this; simp at this
  | cons a r =>
    rw [hq] at h1 h2
    have ha := (h1 a).1 (by simp)
    rw [if_neg ha.2]
    cases r with
    | nil => rw [ha.1]
    | cons c r =>
      have hc := (h1 c).1 (by simp)
      rw [ha.1, hc.1] at h2
      simp at h2
/-- what is left: n bytes, and in one of the loose ones a bit is inverted, if it is said so -/
def LeftS (all : List Int) (firm n : Nat) (inv : Bool) (y : List Int) : Prop :=
  if inv = true then ∃ pos p v, p < 8 ∧ firm ≤ pos ∧ pos < n ∧ all[pos]? = some v ∧ y = (all.take n).set pos (flipB v p) else y = all.take n
theorem crash_of {s s1 : DS} {keep : List Int} {flip : Int} {n : Nat} (h : loseF keep (liveI s.b) 0 (s, 0) = (s1, n)) : crashS s keep flip = calmS (if 0 ≤ flip ∧ 0 < n then invertF s1 (liveI s1.b) (flip % (8 * n : Nat)).toNat else s1) := by unfold crashS; rw [h]
theorem OneS.crash {f room : Int} {all : List Int} {firm : Nat} {s : DS} (h : OneS f room all firm s) (ok : DOk s) (keep flip : Int) :
    ∃ n : Nat, (n : Int) = firm + max 0 (min keep ((all.length : Int) - firm)) ∧ firm ≤ n ∧ n ≤ all.length ∧ (crashS s [keep] flip).off = false ∧ LeftS all firm n (decide (0 ≤ flip ∧ firm < n)) ((crashS s [keep] flip).b f) := by
  have hle : firm ≤ all.length := by have := ok.firm f; rwa [h.firm, h.at_] at this
  obtain ⟨k, hk⟩ : ∃ k : Nat, (k : Int) = max 0 (min keep ((all.length : Int) - firm)) := ⟨(max 0 (min keep ((all.length : Int) - firm))).toNat, by omega⟩
  refine ⟨firm + k, by omega, by omega, by omega, rfl, ?_⟩
  by_cases e : all = []
  · have hf0 : firm = 0 := by rw [e] at hle; simpa using hle
    have hk0 : k = 0 := by rw [e] at hk; simp at hk; omega
    rw [crash_of (s1 := s) (n := 0) (by rw [h.live ok, if_pos e]; rfl), if_neg (by omega)]
    show LeftS all firm (firm + k) _ (s.b f)
    unfold LeftS
    rw [if_neg (by simp; omega)]
    rw [h.at_, e]; simp
  · have hkf : keptF s [keep] 0 f = k := by
      unfold keptF
      simp only [List.getElem?_cons_zero]
      rw [h.firm, h.at_]; omega
    rw [crash_of (s1 := cutS s f (firm + k)) (n := k) (by rw [h.live ok, if_neg e]; simp only [loseF, hkf, h.firm, Nat.zero_add])]
    by_cases hc : 0 ≤ flip ∧ 0 < k
    · rw [if_pos hc]
      have hb1 : (cutS s f (firm + k)).b f = all.take (firm + k) := by simp only [cutS, upd_same, h.at_]
      have hf1 : (cutS s f (firm + k)).firm f = firm := by simp only [cutS, upd_same, h.firm]; omega
      have hl1 : (all.take (firm + k)).length = firm + k := by rw [List.length_take]; omega
      have hlv : liveI (cutS s f (firm + k)).b = [f] := by
        have := OneS.live (s := cutS s f (firm + k)) (f := f) (room := room) (all := all.take (firm + k)) (firm := firm) ⟨fun j hj => by simp only [cutS]; rw [upd_other _ _ hj]; exact h.b j hj, hb1, hf1, h.off, h.plan, h.room⟩ (ok.cut f _)
        rw [this, if_neg (fun e' => by rw [e'] at hl1; simp at hl1; omega)]
      rw [hlv]
      have hm := Int.emod_nonneg flip (show ((8 * k : Nat) : Int) ≠ 0 by omega)
      have hm2 := Int.emod_lt_of_pos flip (show (0 : Int) < ((8 * k : Nat) : Int) by omega)
      obtain ⟨bit, hbit⟩ : ∃ bit : Nat, (flip % ((8 * k : Nat) : Int)).toNat = bit := ⟨_, rfl⟩
      have hb8 : bit < 8 * k := by omega
      rw [hbit]
      simp only [invertF]
      rw [hb1, hf1, hl1, if_pos (by omega)]
      simp only [calmS, firmS, upd_same]
      unfold LeftS
      rw [if_pos (by simp; omega)]
      obtain ⟨v, hv⟩ : ∃ v, all[firm + bit / 8]? = some v := ⟨all[firm + bit / 8]'(by omega), List.getElem?_eq_getElem (by omega)⟩
      refine ⟨firm + bit / 8, bit % 8, v, by omega, by omega, by omega, hv, ?_⟩
      rw [List.getD_eq_getElem?_getD, List.getElem?_take_of_lt (by omega), hv]
      rfl
    · rw [if_neg hc]
      unfold LeftS
      rw [if_neg (by simp; omega)]
      simp only [calmS, firmS, cutS, upd_same, h.at_]
theorem LeftS.len {all y : List Int} {firm n : Nat} {inv : Bool} (h : LeftS all firm n inv y) (hn : n ≤ all.length) : y.length = n := by
  unfold LeftS at h
  split at h
  · obtain ⟨pos, p, v, _, _, _, _, rfl⟩ := h
    rw [List.length_set, List.length_take]; omega
  · rw [h, List.length_take]; omega
theorem LeftS.firm_ {all y : List Int} {firm n : Nat} {inv : Bool} (h : LeftS all firm n inv y) (hn : firm ≤ n) : y.take firm = all.take firm := by
  unfold LeftS at h
  split at h
  · obtain ⟨pos, p, v, _, h1, _, _, rfl⟩ := h
    rw [List.take_set_of_le (by omega), List.take_take, Nat.min_eq_left hn]
  · rw [h, List.take_take, Nat.min_eq_left hn]
end Go.Proofs.Ythcicfolabngcaa
/- An argument that is a slice of slices of bytes. -/
namespace Go.Proofs.Ythcicfolabngcaa
open Go.ChangeShapes Go.WideShapes Go.Deep Go.RowKit

structure PartsAt (w : World) (A : Option Addr) (n c : Nat) (L : List (List Int)) : Prop where
  len : L.length = n
  cap : n ≤ c
  mx : c ≤ maxLen
  at_ : 0 < n → ∃ b o, A = some ⟨b, o, none⟩ ∧ b < w.heap.size ∧ ∀ i x, L[i]? = some x → ∃ A' n' c', w.cell? ⟨b, o + i, none⟩ = some (.slice A' n' c') ∧ Nums .u8 w A' n' c' x
theorem PartsAt.e {w w' : World} {A : Option Addr} {n c : Nat} {L : List (List Int)} (h : PartsAt w A n c L) (hE : E w w') : PartsAt w' A n c L :=
  ⟨h.len, h.cap, h.mx, fun hn => by
    obtain ⟨b, o, h1, h2, h3⟩ := h.at_ hn
    refine ⟨b, o, h1, Nat.lt_of_lt_of_le h2 hE.le, fun i x hx => ?_⟩
    obtain ⟨A', n', c', h4, h5⟩ := h3 i x hx
    exact ⟨A', n', c', (hE.cell (p := ⟨b, o + i, none⟩) h2).trans h4, h5.e hE⟩⟩
theorem PartsAt.n63 {w : World} {A : Option Addr} {n c : Nat} {L : List (List Int)} (h : PartsAt w A n c L) : n ≤ 9223372036854775807 := by have := h.cap; have := h.mx; unfold maxLen at this; omega
theorem PartsAt.get {w : World} {A : Option Addr} {n c : Nat} {L : List (List Int)} (h : PartsAt w A n c L) {i : Nat} (hi : i < n) :
    ∃ b o x A' n' c', A = some ⟨b, o, none⟩ ∧ b < w.heap.size ∧ L[i]? = some x ∧ w.cell? ⟨b, o + i, none⟩ = some (.slice A' n' c') ∧ Nums .u8 w A' n' c' x := by
  obtain ⟨b, o, h1, h2, h3⟩ := h.at_ (by omega)
  have hx : L[i]? = some (L[i]'(by have := h.len; omega)) := List.getElem?_eq_getElem _
  obtain ⟨A', n', c', h4, h5⟩ := h3 i _ hx
  exact ⟨b, o, _, A', n', c', h1, h2, hx, h4, h5⟩
theorem bytes_of_trod {H : Type} {enc : TypeId × Value → H} {P : Program} {w : World} {base : Nat} {spare : Nat → Bool} {held : Bool} {t e : TypeId} {fuel : Nat} {cs : List Value} {x : DataW H × List MemPlace}
    (ht : P.underlying t = some (.slice e)) (he : P.underlying e = some (.int .u8)) (hc : P.cellsOf e = 1) (h : DataW.trod enc P w base spare held fuel t cs = some x) :
    ∃ A n c l, cs = [.slice A n c] ∧ Nums .u8 w A n c l := by
  rcases open_ints ht he hc h with ⟨rfl, _⟩ | ⟨a, len, cap, zs, rfl, _, hl, hm, hz, _, hcell, hwz⟩
  · exact ⟨none, 0, 0, [], rfl, rfl, Nat.le_refl _, by unfold maxLen; omega, by simp, fun h0 => absurd h0 (by omega)⟩
  · have hlz : len ≤ zs.length := by rw [hz]; split <;> omega
    have htl : (zs.take len).length = len := by rw [List.length_take]; omega
    refine ⟨some a, len, cap, zs.take len, rfl, htl, hl, hm, fun y hy => hwz y (List.mem_of_mem_take hy), fun h0 => ?_⟩
    obtain ⟨b, off, spot⟩ := a
    have hc0 := hcell 0 (by omega)
    have hspot : spot = none := by simpa [Addr.add] using World.cell?_spot hc0
    subst hspot
    have hlt : b < w.heap.size := by simpa [Addr.add] using World.block_lt_of_cell? w _ hc0
    refine ⟨b, off, rfl, hlt, fun i hi => ?_⟩
    rw [htl] at hi
    have := hcell i (by omega)
    rw [List.getElem_take]
    rw [List.getD_eq_getElem?_getD, List.getElem?_eq_getElem (by omega)] at this
    exact (congrArg w.cell? (add_plain _ _ _).symm).trans this
theorem parts_of_trod {H : Type} {enc : TypeId × Value → H} {P : Program} {w : World} {base : Nat} {spare : Nat → Bool} {held : Bool} {t e e2 : TypeId} {fuel : Nat} {A : Option Addr} {len cap : Nat} {x : DataW H × List MemPlace}
    (ht : P.underlying t = some (.slice e)) (he : P.underlying e = some (.slice e2)) (he2 : P.underlying e2 = some (.int .u8)) (hC : P.cellsOf e = 1) (hC2 : P.cellsOf e2 = 1)
    (h : DataW.trod enc P w base spare held fuel t [.slice A len cap] = some x) : ∃ L, PartsAt w A len cap L := by
  rcases open_slice ht h with ⟨hcs, _⟩ | ⟨a, len', cap', m, n, D, Pl, hcs, hb, hl, hm, hmm, hx, hi⟩
  · simp at hcs
    obtain ⟨rfl, rfl, rfl⟩ := hcs
    exact ⟨[], ⟨rfl, Nat.le_refl _, Nat.zero_le _, fun h0 => absurd h0 (by omega)⟩⟩
  · simp at hcs
    obtain ⟨rfl, rfl, rfl⟩ := hcs
    have hlm : len ≤ m := by rw [hmm]; split <;> omega
    have key : ∀ i, i < len → ∃ y : List Int, ∃ A' n' c', w.cell? (a.add i) = some (.slice A' n' c') ∧ Nums .u8 w A' n' c' y := by
      intro i hil
      obtain ⟨cs', hc, ht'⟩ := hi i (by omega)
      rw [hC] at hc
      obtain ⟨_, hcl, hat⟩ := World.cells?_some hc
      obtain ⟨A', n', c', y, rfl, hN⟩ := bytes_of_trod he he2 hC2 ht'
      have h1 := hat 0 (by omega)
      simp only [List.getElem?_cons_zero] at h1
      rw [Go.Deep.add_add] at h1
      exact ⟨y, A', n', c', by simpa using h1, hN⟩
    refine ⟨(List.range len).map fun i => if h : i < len then (key i h).choose else [], by simp, hl, hm, fun h0 => ?_⟩
    obtain ⟨b, off, spot⟩ := a
    obtain ⟨_, _, _, hc0, _⟩ := (key 0 h0).choose_spec
    have hspot : spot = none := by simpa [Addr.add] using World.cell?_spot hc0
    subst hspot
    have hlt : b < w.heap.size := by simpa [Addr.add] using World.block_lt_of_cell? w _ hc0
    refine ⟨b, off, rfl, hlt, fun i y hi' => ?_⟩
    have hil : i < len := by have := (List.getElem?_eq_some_iff.1 hi').1; simpa using this
    obtain ⟨A', n', c', h1, h2⟩ := (key i hil).choose_spec
    rw [List.getElem?_map, List.getElem?_range hil] at hi'
    simp only [Option.map_some, Option.some.injEq] at hi'
    rw [dif_pos hil] at hi'
    subst hi'
    exact ⟨A', n', c', (congrArg w.cell? (add_plain _ _ _).symm).trans h1, h2⟩
end Go.Proofs.Ythcicfolabngcaa
/- Rows of the call's own among other things. -/
namespace Go.Proofs.Ythcicfolabngcaa
open Go.RowKit

def OwnT (k : IntKind) (T : TypeId) (A : Option Addr) (n c : Nat) (l : List Int) (w : World) (X : Nat → Prop) : Prop := Own k T w 0 A n c l ∧ (∀ b, ob A = some b → X b) ∧ ∀ i, X i → i < w.heap.size
theorem ownT (k : IntKind) (T : TypeId) (A : Option Addr) (n c : Nat) (l : List Int) : Thing (OwnT k T A n c l) :=
  ⟨fun h hz hb => ⟨h.1.same fun b hb' => hb b (h.2.1 b hb'), h.2.1, fun i hi => Nat.lt_of_lt_of_le (h.2.2 i hi) hz⟩, fun h => h.2.2⟩
section
variable {w0 w w' : World} {L : List (World → (Nat → Prop) → Prop)} {k : IntKind} {T : TypeId} {A A' : Option Addr} {n c n' c' : Nat} {l l' : List Int}
theorem Room.nilRow (h : Room w0 w L) (k : IntKind) (T : TypeId) : Room w0 w (L ++ [OwnT k T none 0 0 []]) :=
  h.add (X := fun _ => False) (E.refl w) (ownT _ _ _ _ _ _) ⟨Own.nil _ _ _ _, fun _ hb => (by cases hb), fun _ hi => hi.elim⟩ fun _ hi => hi.elim
theorem Room.newRow (h : Room w0 w L) (hE : E w w') (hO : Own k T w' w.heap.size A n c l) : Room w0 w' (L ++ [OwnT k T A n c l]) :=
  h.add (X := fun i => ob A = some i) hE (ownT _ _ _ _ _ _) ⟨hO.low, fun _ hb => hb, fun i hi => (hO.ltN i hi).2⟩ fun i hi => (hO.ltN i hi).1
theorem Room.ownAt (h : Room w0 w L) (j : Nat) (hj : L[j]? = some (OwnT k T A n c l)) : Own k T w 0 A n c l := by
  obtain ⟨X, hD⟩ := h.look j hj
  exact hD.1
theorem Room.appOwn (h : Room w0 w L) (j : Nat) (hj : L[j]? = some (OwnT k T A n c l)) (hO : Own k T w' 0 A' n' c' l') (hG : w.grownBy w' (ob A)) (hb : ob A' = ob A ∨ ob A' = some w.heap.size) : Room w0 w' (L.set j (OwnT k T A' n' c' l')) := by
  obtain ⟨Xs, F⟩ := h
  have h1 := F.at_ j _ hj
  refine F.turn (getL hj).1 (X' := fun i => ob A' = some i) (ownT _ _ _ _ _ _) ⟨hO, fun _ hb => hb, fun i hi => (hO.ltN i hi).2⟩ ((Ex.refl (Xs j) w).grown hG fun i hi => .inr (h1.2.1 i hi)) fun i hi => ?_
  rcases hb with e | e
  · exact .inl (h1.2.1 i (e ▸ hi))
  · rw [e] at hi; injection hi with hi; exact .inr (by omega)
/-- a thing is seen as another -/
theorem Room.as {T1 T2 : World → (Nat → Prop) → Prop} (h : Room w0 w L) (j : Nat) (hj : L[j]? = some T1) (hT : Thing T2) (hi : ∀ X, T1 w X → T2 w X) : Room w0 w (L.set j T2) := by
  obtain ⟨Xs, F⟩ := h
  exact F.turn (getL hj).1 hT (hi _ (F.at_ j _ hj)) (Ex.refl _ _) fun i hi => .inl hi
theorem Room.reads (h : Room w0 w L) (j : Nat) (hj : L[j]? = some (OwnT k T A n c l)) : Room w0 w (L.set j (NumsT k A n c l)) :=
  h.as j hj (numsT _ _ _ _ _) fun _ hX => ⟨hX.1.reads, fun _ => hX.2.1, hX.2.2⟩
end
end Go.Proofs.Ythcicfolabngcaa
