/- Several texts of this session in one file, in build order: GCan, GGame, GPlan, GStart, Pf20, Pf21, Pf41, DAlive, DLaid. -/
import Derived.Test.YtglajokjiphafaaDoorJB1
import Derived.Lib.BitFns
import Derived.Maps.OwnSet
import Derived.Maps.OwnOps
import Derived.Maps.Views
import Derived.BigQuiet
import Derived.Outline
import Derived.Maps.AppendAt
import Derived.Carry
import Derived.Test.YtglajokjiphafaaDoorRows
import Derived.LaidMore
import Derived.OpenShut
import Derived.ProofKit
set_option linter.unusedSimpArgs false
set_option linter.unusedVariables false
namespace Go.Proofs.YtglajokjiphafaaDoor.P
open Go.Lib Go.RowKit Go.Proofs.YtglajokjiphafaaDoorW.PrintWords Go.Proofs.YtglajokjiphafaaDoorW.PrintLast Go.Proofs.YtglajokjiphafaaDoorW.PrintMore Go.Proofs.YtglajokjiphafaaDoor.Kit

theorem pop_count : ∀ (k x : Nat), Lib.popAux k x = ((List.range k).filter fun s => x.testBit s).length := by
  intro k
  induction k with
  | zero => intro x; rfl
  | succ k ih =>
    intro x
    rw [List.range_succ_eq_map, List.filter_cons, List.filter_map, Lib.popAux, ih (x / 2)]
    have h : (fun s => x.testBit s) ∘ Nat.succ = fun s => (x / 2).testBit s := by
      funext s; simp [Nat.testBit_succ]
    rw [h, Nat.testBit_zero]
    by_cases h1 : x % 2 = 1
    · simp [h1]; omega
    · simp [h1]; omega
theorem ones_bits (f : Nat) : Lib.onesCount f = (bitsL f).length := pop_count 64 f
theorem many_calls (f : Nat) (hf : f < 18446744073709551616) (w : World) (r : Nat) (hr : (bitsL f).length = r) :
    Calls Tryd.prog 83 #[.int .u64 (f : Int)] w fun e w' => e = .returned (.int .i64 (r : Int)) ∧ Drawn0 w w' := by
  refine find_sets_many.calls (f : Int) (r : Int) w ?_
  unfold find_sets_many.f bits_OnesCount64.f
  rw [if_pos (by omega), Option.bind_some, Int.toNat_natCast, ones_bits, hr]
def cutA (t : Nat) (L : List Nat) : List Nat := L.filter fun s => s &&& t != 0
def cutB (t : Nat) (L : List Nat) : List Nat := L.filter fun s => s &&& t == 0
/-- Can sets be told apart by so many tests? -/
def canL (n : Nat) : Nat → List Nat → Bool
  | 0, L => decide (L.length ≤ 1)
  | k + 1, L => decide (L.length ≤ 1) || (decide (L.length ≤ 2 ^ (k + 1)) && (List.range' 1 (2 ^ n - 1)).any fun t => !(cutA t L).isEmpty && (!(cutB t L).isEmpty && (canL n k (cutA t L) && canL n k (cutB t L))))
def testC (n k : Nat) (L : List Nat) (t : Nat) : Bool := !(cutA t L).isEmpty && (!(cutB t L).isEmpty && (canL n k (cutA t L) && canL n k (cutB t L)))
/-- The first test after which k tests are enough; 0: there is none. -/
def testL (n k : Nat) (L : List Nat) : Nat := ((List.range' 1 (2 ^ n - 1)).find? (testC n k L)).getD 0
theorem testL_pos (n k : Nat) (L : List Nat) : decide (0 < testL n k L) = (List.range' 1 (2 ^ n - 1)).any (testC n k L) := by
  unfold testL
  cases h : (List.range' 1 (2 ^ n - 1)).find? (testC n k L) with
  | none =>
    rw [List.find?_eq_none] at h
    have : (List.range' 1 (2 ^ n - 1)).any (testC n k L) = false := by rw [List.any_eq_false]; exact h
    rw [this]; rfl
  | some t =>
    have h1 := List.mem_of_find?_eq_some h
    have h2 := List.find?_some h
    have h3 := (List.mem_range'_1.1 h1).1
    rw [List.any_eq_true.2 ⟨t, h1, h2⟩]
    simp; omega
theorem testL_lt (n k : Nat) (L : List Nat) : testL n k L < 2 ^ n := by
  have hp : 0 < 2 ^ n := Nat.two_pow_pos n
  unfold testL
  cases h : (List.range' 1 (2 ^ n - 1)).find? (testC n k L) with
  | none => exact hp
  | some t =>
    have h3 := (List.mem_range'_1.1 (List.mem_of_find?_eq_some h)).2
    show t < 2 ^ n
    omega
theorem canL_succ (n k : Nat) (L : List Nat) : canL n (k + 1) L = (decide (L.length ≤ 1) || (decide (L.length ≤ 2 ^ (k + 1)) && decide (0 < testL n k L))) := by
  rw [testL_pos]; rfl
theorem canL_le1 (n k : Nat) (L : List Nat) (h : L.length ≤ 1) : canL n k L = true := by
  cases k <;> simp [canL, h]
theorem canL_step (n : Nat) : ∀ k L, canL n k L = true → canL n (k + 1) L = true := by
  intro k
  induction k with
  | zero => intro L h; exact canL_le1 n 1 L (by simpa [canL] using h)
  | succ k ih =>
    intro L h
    by_cases hl : L.length ≤ 1
    · exact canL_le1 _ _ _ hl
    · simp only [canL, Bool.or_eq_true, Bool.and_eq_true, decide_eq_true_eq, List.any_eq_true] at h
      rcases h with h | ⟨h1, t, ht, h2⟩
      · omega
      · rw [canL]
        simp only [Bool.or_eq_true, Bool.and_eq_true, decide_eq_true_eq, List.any_eq_true]
        refine .inr ⟨?_, t, ht, h2.1, h2.2.1, ih _ h2.2.2.1, ih _ h2.2.2.2⟩
        have : 2 ^ (k + 1) ≤ 2 ^ (k + 1 + 1) := Nat.pow_le_pow_right (by decide) (by omega)
        omega
theorem canL_mono (n : Nat) {k k' : Nat} {L : List Nat} (hk : k ≤ k') (h : canL n k L = true) : canL n k' L = true := by
  induction hk with
  | refl => exact h
  | step _ ih => exact canL_step _ _ _ ih
theorem canL_many (n k : Nat) (L : List Nat) (h : 2 ^ k < L.length) : canL n k L = false := by
  have h1 : 0 < 2 ^ k := Nat.two_pow_pos k
  cases k with
  | zero => simp only [canL]; exact decide_eq_false (by simpa using h)
  | succ k => rw [canL_succ, decide_eq_false (by omega), decide_eq_false (by omega)]; rfl
open Go.Maps in
/-- What is known of a map: of each set so many tests. -/
def MemD (p : Nat → Nat → Prop) (D : DataW Unit) : Prop := IsMap D ∧ ∀ (f : Nat) (c : Int), has D (.int .u64 (f : Int)) = true → D.atKey (.int .u64 (f : Int)) (.lit (.int .i64 0)) = .lit (.int .i64 c) → ∃ t : Nat, c = (t : Int) ∧ p f t
open Go.Maps in
theorem MemD.put {p : Nat → Nat → Prop} {D : DataW Unit} (h : MemD p D) (f t : Nat) (hp : p f t) : MemD p (D.put (.int .u64 (f : Int)) (.lit (.int .i64 (t : Int)))) := by
  refine ⟨h.1.put _ _, fun f' c h1 h2 => ?_⟩
  by_cases e : f' = f
  · subst e
    rw [atKey_put_same h.1 (by exact trivial)] at h2
    injection h2 with h2
    injection h2 with _ h2
    exact ⟨t, h2.symm, hp⟩
  · have hne : (Lit.int .u64 (f' : Int)) ≠ (.int .u64 (f : Int)) := by
      intro h; injection h with _ h; omega
    rw [has_put_other hne] at h1
    rw [atKey_put_other hne] at h2
    exact h.2 f' c h1 h2
open Go.Maps in
theorem MemD.empty (p : Nat → Nat → Prop) : MemD p (.map []) := ⟨isMap_empty, fun f c h => by simp [has_eq] at h⟩
/-- A map of the call's own, of at most c entries, that holds what is known. -/
def MapIn (p : Nat → Nat → Prop) (Be c : Nat) (W : World) : Prop := ∃ k D, k ≤ c ∧ W.ownsMap Tryd.prog 77 (plainElem (H := Unit) Tryd.prog 3) Be k D ∧ MemD p D
theorem MapIn.kept {p : Nat → Nat → Prop} {Be c : Nat} {W W' : World} {S : Nat → Prop} (h : MapIn p Be c W) (hk : Kept W W' S) (hs : ¬ S Be) : MapIn p Be c W' := by
  obtain ⟨k, D, h1, ⟨es, clock, hb, h2⟩, h3⟩ := h
  exact ⟨k, D, h1, ⟨es, clock, blk_kept hb hk hs, h2⟩, h3⟩
theorem MapIn.mono {p : Nat → Nat → Prop} {Be c c' : Nat} {W : World} (h : MapIn p Be c W) (hc : c ≤ c') : MapIn p Be c' W := by
  obtain ⟨k, D, h1, h2⟩ := h
  exact ⟨k, D, Nat.le_trans h1 hc, h2⟩
def canY (n : Nat) (f t : Nat) : Prop := canL n t (bitsL f) = true
def canN (n : Nat) (f t : Nat) : Prop := canL n t (bitsL f) = false
/-- A game in memory. -/
structure GameAt (n g Be Bs c : Nat) (W : World) : Prop where
  tab : TabG W
  blk : W.heap[g]? = some (.cells #[.int .i64 (n : Int), .map (some Be), .map (some Bs)] 104 (0, 0))
  en : MapIn (canY n) Be c W
  sh : MapIn (canN n) Bs c W
  ne : Be ≠ Bs
theorem GameAt.mono {n g Be Bs c c' : Nat} {W : World} (h : GameAt n g Be Bs c W) (hc : c ≤ c') : GameAt n g Be Bs c' W := ⟨h.tab, h.blk, h.en.mono hc, h.sh.mono hc, h.ne⟩
theorem GameAt.below {n g Be Bs c : Nat} {W W' : World} (h : GameAt n g Be Bs c W) (hb : Below W.heap.size W W') : GameAt n g Be Bs c W' :=
  ⟨h.tab.below hb, (hb.block g (Array.getElem?_eq_some_iff.1 h.blk).1).trans h.blk, h.en.kept (Kept.of_below hb fun _ => False) id, h.sh.kept (Kept.of_below hb fun _ => False) id, h.ne⟩
theorem GameAt.drewN {n g Be Bs c : Nat} {W : World} (h : GameAt n g Be Bs c W) (m : Nat) : GameAt n g Be Bs c (W.drewN m) := h.below (pw_below_drewN (Below.refl _ _) m)
theorem MapIn.isMap {p : Nat → Nat → Prop} {Be c : Nat} {W : World} (h : MapIn p Be c W) : ∃ es clock, W.heap[Be]? = some (.map es clock) := by
  obtain ⟨k, D, h1, ⟨es, clock, hb, h2⟩, h3⟩ := h
  exact ⟨es, clock, hb⟩
/-- What a game's calls leave as it was. -/
def KeptG (Be Bs : Nat) (W W' : World) : Prop := Kept W W' (fun k => k = Be ∨ k = Bs)
theorem KeptG.refl (Be Bs : Nat) (W : World) : KeptG Be Bs W W := Kept.refl _ _
theorem KeptG.trans {Be Bs : Nat} {W W' W2 : World} (h : KeptG Be Bs W W') (k : KeptG Be Bs W' W2) : KeptG Be Bs W W2 := Kept.then_ h k (fun k hk => .inl hk)
theorem KeptG.of_below {Be Bs : Nat} {W W' : World} (h : Below W.heap.size W W') : KeptG Be Bs W W' := Kept.of_below h _
/-- One of the maps is written. -/
theorem GameAt.put_en {n g Be Bs c : Nat} {W W' : World} (h : GameAt n g Be Bs c W) (hg : W.grownBy W' (some Be)) (hm : MapIn (canY n) Be (c + 1) W') : GameAt n g Be Bs (c + 1) W' := by
  obtain ⟨es, clock, hb⟩ := h.en.isMap
  have hk : Kept W W' (fun k => k = Be) := ⟨hg.size, fun i hi hn => hg.block i hi (fun e => hn (by injection e))⟩
  refine ⟨h.tab.kept hk (fun a b d hc e => ?_), blk_kept h.blk hk (fun e => ?_), hm, (h.sh.kept hk (fun e => h.ne e.symm)).mono (Nat.le_succ c), h.ne⟩
  · rw [e, hb] at hc; cases hc
  · have := h.blk; rw [e, hb] at this; cases this
theorem GameAt.put_sh {n g Be Bs c : Nat} {W W' : World} (h : GameAt n g Be Bs c W) (hg : W.grownBy W' (some Bs)) (hm : MapIn (canN n) Bs (c + 1) W') : GameAt n g Be Bs (c + 1) W' := by
  obtain ⟨es, clock, hb⟩ := h.sh.isMap
  have hk : Kept W W' (fun k => k = Bs) := ⟨hg.size, fun i hi hn => hg.block i hi (fun e => hn (by injection e))⟩
  refine ⟨h.tab.kept hk (fun a b d hc e => ?_), blk_kept h.blk hk (fun e => ?_), (h.en.kept hk h.ne).mono (Nat.le_succ c), hm, h.ne⟩
  · rw [e, hb] at hc; cases hc
  · have := h.blk; rw [e, hb] at this; cases this
/-- So many entries a call may add. -/
def cntT : Nat → Nat
  | 0 => 0
  | k + 1 => 1 + 62 * cntT k
end Go.Proofs.YtglajokjiphafaaDoor.P

set_option linter.unusedSimpArgs false
set_option linter.unusedVariables false
namespace Go.Proofs.YtglajokjiphafaaDoor.P
open Go.Lib Go.RowKit Go.Proofs.YtglajokjiphafaaDoorW.PrintWords Go.Proofs.YtglajokjiphafaaDoorW.PrintLast Go.Proofs.YtglajokjiphafaaDoorW.PrintMore Go.Proofs.YtglajokjiphafaaDoor.Kit
attribute [local go_sem] max2_int min2_int max_two min_two max_three min_three max_four min_four

theorem quiet_add {P : Program} {f : FuncId} {args : Array Value} {w : World} {a n : Nat} {v : Value}
    (h : Calls P f args (w.drewN (a + n)) fun e w' => e = .returned v ∧ Drawn0 (w.drewN (a + n)) w') :
    Calls P f args (w.drewN (a + n)) fun e w'' => e = .returned v ∧ ∃ m, w'' = w.drewN (a + m) :=
  h.mono fun _ _ ⟨he, ⟨m, hm⟩⟩ => ⟨he, n + m, by rw [hm, World.drewN_drewN, Nat.add_assoc]⟩
/-- What a call of can comes to. -/
def CanSays (n g Be Bs B k : Nat) : Prop := ∀ (f c : Nat) (W : World), f < 18446744073709551616 → c + cntT k ≤ 1152921504606846976 → GameAt n g Be Bs c W →
  Calls Tryd.prog 82 #[.pointer (some ⟨g, 0, none⟩), .int .u64 (f : Int), .int .i64 (k : Int)] W fun e w' => e = .returned (.bool (canL n k (bitsL f))) ∧ GameAt n g Be Bs (c + cntT k) w' ∧ KeptG Be Bs W w' ∧ Below B W w'
def TestSays (n g Be Bs B k : Nat) : Prop := ∀ (f c : Nat) (W : World), f < 18446744073709551616 → c + 62 * cntT k ≤ 1152921504606846976 → GameAt n g Be Bs c W →
  Calls Tryd.prog 84 #[.pointer (some ⟨g, 0, none⟩), .int .u64 (f : Int), .int .i64 ((k : Int) + 1)] W fun e w' => e = .returned (.int .i64 (testL n k (bitsL f) : Int)) ∧ GameAt n g Be Bs (c + 62 * cntT k) w' ∧ KeptG Be Bs W w' ∧ Below B W w'
theorem pow5 {n : Nat} (hn : n ≤ 5) : 2 ^ n ≤ 32 := Nat.le_trans (Nat.pow_le_pow_right (by decide) hn) (by decide)
set_option maxHeartbeats 4000000
set_option maxRecDepth 100000
theorem test_of (n g Be Bs B k : Nat) (hn : n ≤ 5) (hk : k ≤ 50) (hB : B ≤ Be ∧ B ≤ Bs) (hcan : CanSays n g Be Bs B k) : TestSays n g Be Bs B k := by
  intro f c W hf hc hG
  have HCan := Aside0.mk hcan
  have HB := Aside0.mk hB
  have HFt := Aside0.mk hf
  have HG := Aside0.mk hG
  have HN := Aside0.mk hn
  have HC := Aside0.mk hc
  have HK := Aside0.mk hk
  have hp := pow5 hn
  have HP := Aside0.mk hp
  have Hshl := Aside0.mk (shl1n (n := n) (by omega))
  have Hp1 := Aside0.mk (show 1 ≤ 2 ^ n from Nat.one_le_two_pow)
  have Hk1 := Aside0.mk (show wrap64 (k : Int) = (k : Int) from w64n k (by omega))
  have h0 : (0 : Int) ≤ (n : Int) := by omega
  have h5 : (n : Int) ≤ 5 := by omega
  have H0 : ((List.range' 1 (2 ^ n - 1)).find? (testC n k (bitsL f))).getD 0 = testL n k (bitsL f) := rfl
  have HT0 := Aside0.mk H0
  have HCt0 := Aside0.mk (show c + (2 ^ n - 1) * (2 * cntT k) ≤ c + 62 * cntT k by
    have h1 : (2 ^ n - 1) * (2 * cntT k) ≤ 31 * (2 * cntT k) := Nat.mul_le_mul_right _ (by omega)
    omega)
  clear hcan hB hf hG hn hc hk hp H0
  go_enter Tryd.func84, Tryd.ntmps84
  go_wp2
  go_loopw [7] (fun v7 w' => ∃ t : Nat, v7 = .int .i64 (t : Int) ∧ Aside0 (1 ≤ t ∧ t ≤ 2 ^ n) ∧ Aside0 (((List.range' t (2 ^ n - t)).find? (testC n k (bitsL f))).getD 0 = testL n k (bitsL f)) ∧ Aside0 (∃ c', c' + (2 ^ n - t) * (2 * cntT k) ≤ c + 62 * cntT k ∧ GameAt n g Be Bs c' w') ∧ Aside0 (KeptG Be Bs W w') ∧ Aside0 (Below B W w')) (fun v _ => 2 ^ n - (intOf v).toNat)
  case atStart => exact ⟨1, rfl, ⟨by have := Hp1.out; omega⟩, HT0, ⟨⟨c, HCt0.out, HG.out⟩⟩, ⟨KeptG.refl _ _ _⟩, ⟨Below.refl _ _⟩⟩
  case round =>
    clear HG HT0 HCt0
    obtain ⟨t, rfl, Ht, HS, HGx, HKp, HBl⟩ := hrel
    obtain ⟨c', hc', hG⟩ := HGx.out
    have hgc : wr.cell? ⟨g, 0, none⟩ = some (.int .i64 (n : Int)) := (blk_cell hG.blk 0).trans rfl
    have HG := Aside0.mk hG
    have HC' := Aside0.mk hc'
    clear hG hc' HGx
    have Hw := Aside0.mk (show wrap64 ((2 : Int) ^ n) = ((2 ^ n : Nat) : Int) by
      rw [show ((2 : Int) ^ n) = ((2 ^ n : Nat) : Int) by simp, w64n _ (by have := HP.out; omega)])
    have Hwt := Aside0.mk (show wrap64 ((t : Int) + 1) = ((t + 1 : Nat) : Int) from wrap1 (by have := Ht.out.2; have := HP.out; omega))
    by_cases ct : t < 2 ^ n
    · have c1 : decide ((t : Int) < wrap64 ((2 : Int) ^ n)) = true := by rw [Hw.out]; exact decide_eq_true (by omega)
      have Hct := Aside0.mk ct
      have Hs := Aside0.mk (show (match testC n k (bitsL f) t with | true => some t | false => (List.range' (t + 1) (2 ^ n - (t + 1))).find? (testC n k (bitsL f))).getD 0 = testL n k (bitsL f) by
        have h := HS.out
        rw [show 2 ^ n - t = (2 ^ n - (t + 1)) + 1 by omega, List.range'_succ, List.find?_cons] at h
        exact h)
      have Hcc := Aside0.mk (show c' + 2 * cntT k + (2 ^ n - (t + 1)) * (2 * cntT k) ≤ c + 62 * cntT k by
        have h := HC'.out
        rw [show 2 ^ n - t = (2 ^ n - (t + 1)) + 1 by omega, Nat.succ_mul] at h
        omega)
      have HPt := Aside0.mk (fun W (hT : TabG W) => parted_calls f t HFt.out (by have := HP.out; omega) W hT)
      have hA := bitsL_hit t f HFt.out
      have hBm := bitsL_miss t f HFt.out
      have zA := bitsL_zero (hitN_lt t f)
      have zB := bitsL_zero (andn_lt (hitN t f) HFt.out)
      have HhL := Aside0.mk (And.intro (hitN_lt t f) (andn_lt (hitN t f) HFt.out))
      rw [hA] at zA
      rw [hBm] at zB
      have HA := Aside0.mk hA
      have HBm := Aside0.mk hBm
      have ZA := Aside0.mk zA
      have ZB := Aside0.mk zB
      clear ct HS hA hBm zA zB HC'
      generalize andn f (hitN t f) = m at *
      generalize hitN t f = h at *
      by_cases ch : h = 0
      · have c2 : ((h : Int) == 0) = true := by rw [ch]; rfl
        have Hch := Aside0.mk ch
        clear ch
        go_wp2_with (first | (go_at_call 85; (with_reducible refine (HPt.out _ HG.out.tab).mono ?_); rintro e w' ⟨rfl, ⟨nd, rfl⟩⟩))
        go_roundw
        case rel => exact ⟨t + 1, by rw [Hwt.out], ⟨by have := Ht.out; have := Hct.out; omega⟩, ⟨by have h1 := Hs.out; rw [show testC n k (bitsL f) t = false by unfold testC cutA cutB; rw [ZA.out.2 Hch.out]; rfl] at h1; exact h1⟩, ⟨⟨c', by have := Hcc.out; omega, HG.out.drewN nd⟩⟩, ⟨HKp.out.trans (KeptG.of_below (pw_below_drewN (Below.refl _ _) nd))⟩, ⟨HBl.out.trans (pw_below_drewN (Below.refl _ _) nd)⟩⟩
        case measure => rw [Hwt.out]; have := Hct.out; simp [intOf]; omega
      · have c2 : ((h : Int) == 0) = false := beq_eq_false_iff_ne.2 (by omega)
        have Hch := Aside0.mk ch
        clear ch
        by_cases cm : m = 0
        · have c3 : ((m : Int) == 0) = true := by rw [cm]; rfl
          have Hcm := Aside0.mk cm
          clear cm
          go_wp2_with (first | (go_at_call 85; (with_reducible refine (HPt.out _ HG.out.tab).mono ?_); rintro e w' ⟨rfl, ⟨nd, rfl⟩⟩))
          go_roundw
          case rel => exact ⟨t + 1, by rw [Hwt.out], ⟨by have := Ht.out; have := Hct.out; omega⟩, ⟨by have h1 := Hs.out; rw [show testC n k (bitsL f) t = false by unfold testC cutA cutB; rw [ZB.out.2 Hcm.out]; simp] at h1; exact h1⟩, ⟨⟨c', by have := Hcc.out; omega, HG.out.drewN nd⟩⟩, ⟨HKp.out.trans (KeptG.of_below (pw_below_drewN (Below.refl _ _) nd))⟩, ⟨HBl.out.trans (pw_below_drewN (Below.refl _ _) nd)⟩⟩
          case measure => rw [Hwt.out]; have := Hct.out; simp [intOf]; omega
        · have c3 : ((m : Int) == 0) = false := beq_eq_false_iff_ne.2 (by omega)
          have Hcm := Aside0.mk cm
          clear cm
          have hAe : (bitsL f).filter (fun s => s &&& t != 0) ≠ [] := fun e => Hch.out (ZA.out.1 e)
          have hBe : (bitsL f).filter (fun s => s &&& t == 0) ≠ [] := fun e => Hcm.out (ZB.out.1 e)
          have HTC := Aside0.mk (show testC n k (bitsL f) t = (canL n k (bitsL h) && canL n k (bitsL m)) by
            rw [HA.out, HBm.out]
            unfold testC cutA cutB
            generalize (bitsL f).filter (fun s => s &&& t != 0) = a at *
            generalize (bitsL f).filter (fun s => s &&& t == 0) = b at *
            cases a with
            | nil => exact absurd rfl hAe
            | cons x a => cases b with
              | nil => exact absurd rfl hBe
              | cons y b => simp)
          have HCh := Aside0.mk (fun c1 W h1 h2 => by have h3 := HCan.out h c1 W HhL.out.1 h1 h2; rw [← Hk1.out] at h3; exact h3)
          have HCm := Aside0.mk (fun c1 W h1 h2 => by have h3 := HCan.out m c1 W HhL.out.2 h1 h2; rw [← Hk1.out] at h3; exact h3)
          clear hAe hBe ZA ZB HA HBm
          generalize canL n k (bitsL h) = u1 at *
          generalize canL n k (bitsL m) = u2 at *
          cases u1 with
          | false =>
            go_wp2_with (first | (go_at_call 85; (with_reducible refine (HPt.out _ HG.out.tab).mono ?_); rintro e w' ⟨rfl, ⟨nd, rfl⟩⟩) | (go_at_call 82; (with_reducible refine (HCh.out c' _ (by have := Hcc.out; have := HC.out; omega) (HG.out.drewN nd)).mono ?_); rintro e w5 ⟨rfl, hG5, hk5, hb5⟩; have HG5 := Aside0.mk hG5; have HK5 := Aside0.mk hk5; have HB5 := Aside0.mk hb5; clear hG5 hk5 hb5) | (go_at_call 82; (with_reducible refine (HCm.out (c' + cntT k) _ (by have := Hcc.out; have := HC.out; omega) HG5.out).mono ?_); rintro e w6 ⟨rfl, hG6, hk6, hb6⟩; have HG6 := Aside0.mk hG6; have HK6 := Aside0.mk hk6; have HB6 := Aside0.mk hb6; clear hG6 hk6 hb6))
            go_roundw
            case rel => exact ⟨t + 1, by rw [Hwt.out], ⟨by have := Ht.out; have := Hct.out; omega⟩, ⟨by have h1 := Hs.out; rw [HTC.out] at h1; exact h1⟩, ⟨⟨c' + cntT k, by have := Hcc.out; omega, HG5.out⟩⟩, ⟨(HKp.out.trans (KeptG.of_below (pw_below_drewN (Below.refl _ _) nd))).trans HK5.out⟩, ⟨(HBl.out.trans (pw_below_drewN (Below.refl _ _) nd)).trans HB5.out⟩⟩
            case measure => rw [Hwt.out]; have := Hct.out; simp [intOf]; omega
          | true =>
            cases u2 with
            | false =>
              go_wp2_with (first | (go_at_call 85; (with_reducible refine (HPt.out _ HG.out.tab).mono ?_); rintro e w' ⟨rfl, ⟨nd, rfl⟩⟩) | (go_at_call 82; (with_reducible refine (HCh.out c' _ (by have := Hcc.out; have := HC.out; omega) (HG.out.drewN nd)).mono ?_); rintro e w5 ⟨rfl, hG5, hk5, hb5⟩; have HG5 := Aside0.mk hG5; have HK5 := Aside0.mk hk5; have HB5 := Aside0.mk hb5; clear hG5 hk5 hb5) | (go_at_call 82; (with_reducible refine (HCm.out (c' + cntT k) _ (by have := Hcc.out; have := HC.out; omega) HG5.out).mono ?_); rintro e w6 ⟨rfl, hG6, hk6, hb6⟩; have HG6 := Aside0.mk hG6; have HK6 := Aside0.mk hk6; have HB6 := Aside0.mk hb6; clear hG6 hk6 hb6))
              go_roundw
              case rel => exact ⟨t + 1, by rw [Hwt.out], ⟨by have := Ht.out; have := Hct.out; omega⟩, ⟨by have h1 := Hs.out; rw [HTC.out] at h1; exact h1⟩, ⟨⟨c' + cntT k + cntT k, by have := Hcc.out; omega, HG6.out⟩⟩, ⟨((HKp.out.trans (KeptG.of_below (pw_below_drewN (Below.refl _ _) nd))).trans HK5.out).trans HK6.out⟩, ⟨((HBl.out.trans (pw_below_drewN (Below.refl _ _) nd)).trans HB5.out).trans HB6.out⟩⟩
              case measure => rw [Hwt.out]; have := Hct.out; simp [intOf]; omega
            | true =>
              go_wp2_with (first | (go_at_call 85; (with_reducible refine (HPt.out _ HG.out.tab).mono ?_); rintro e w' ⟨rfl, ⟨nd, rfl⟩⟩) | (go_at_call 82; (with_reducible refine (HCh.out c' _ (by have := Hcc.out; have := HC.out; omega) (HG.out.drewN nd)).mono ?_); rintro e w5 ⟨rfl, hG5, hk5, hb5⟩; have HG5 := Aside0.mk hG5; have HK5 := Aside0.mk hk5; have HB5 := Aside0.mk hb5; clear hG5 hk5 hb5) | (go_at_call 82; (with_reducible refine (HCm.out (c' + cntT k) _ (by have := Hcc.out; have := HC.out; omega) HG5.out).mono ?_); rintro e w6 ⟨rfl, hG6, hk6, hb6⟩; have HG6 := Aside0.mk hG6; have HK6 := Aside0.mk hk6; have HB6 := Aside0.mk hb6; clear hG6 hk6 hb6))
              go_ret
              have hr : t = testL n k (bitsL f) := by have h1 := Hs.out; rw [HTC.out] at h1; exact h1
              exact ⟨by rw [← hr]; rfl, HG6.out.mono (by have := Hcc.out; omega), ((HKp.out.trans (KeptG.of_below (pw_below_drewN (Below.refl _ _) nd))).trans HK5.out).trans HK6.out, ((HBl.out.trans (pw_below_drewN (Below.refl _ _) nd)).trans HB5.out).trans HB6.out⟩
    · have c1 : decide ((t : Int) < wrap64 ((2 : Int) ^ n)) = false := by rw [Hw.out]; exact decide_eq_false (by omega)
      have hs := HS.out
      rw [show 2 ^ n - t = 0 by omega] at hs
      have Hs := Aside0.mk (show 0 = testL n k (bitsL f) from hs)
      clear ct hs HS
      go_wp2
      go_ret
      exact ⟨by rw [← Hs.out]; rfl, HG.out.mono (Nat.le_trans (Nat.le_add_right _ _) HC'.out), HKp.out, HBl.out⟩
theorem wf_u64 (f : Nat) (hf : f < 18446744073709551616) : (Lit.int .u64 (f : Int)).wf = true := by
  show (decide (IntKind.u64.min ≤ (f : Int)) && decide ((f : Int) ≤ IntKind.u64.max)) = true
  rw [show IntKind.u64.min = 0 from rfl, show IntKind.u64.max = 18446744073709551615 from rfl]
  simp
  omega
theorem wf_i64 (f : Nat) (hf : f ≤ 100) : (Lit.int .i64 (f : Int)).wf = true := by
  show (decide (IntKind.i64.min ≤ (f : Int)) && decide ((f : Int) ≤ IntKind.i64.max)) = true
  rw [show IntKind.i64.min = -9223372036854775808 from rfl, show IntKind.i64.max = 9223372036854775807 from rfl]
  simp
  omega
theorem MapIn.look {p : Nat → Nat → Prop} {Be c : Nat} {W : World} (h : MapIn p Be c W) (f : Nat) (hf : f < 18446744073709551616) :
    ∃ (b : Bool) (x : Int), (∀ nq, (Instr.lookup 102 (.map (some Be)) (.int .u64 (f : Int)) true).run Tryd.prog (W.drewN nq) = .ok (.tuple #[.int .i64 x, .bool b]) (W.drewN nq)) ∧ (b = true → ∃ t : Nat, x = (t : Int) ∧ p f t) := by
  obtain ⟨k, D, h1, hown, hm⟩ := h
  have law : Go.Maps.Keyed Tryd.prog 77 := Go.Maps.int_keyed Tryd.underlying77
  have hkey : keyOf Tryd.prog 77 (.int .u64 (f : Int)) = some (.int .u64 (f : Int)) := Go.Maps.keyOf_int_mk Tryd.underlying77 (wf_u64 f hf)
  have key : ∀ nq, ∃ v ps, (Instr.lookup 102 (.map (some Be)) (.int .u64 (f : Int)) true).run Tryd.prog (W.drewN nq) = .ok (.tuple #[v, .bool (Go.Maps.has D (.int .u64 (f : Int)))]) (W.drewN nq) ∧ plainElem (H := Unit) Tryd.prog 3 v = some (D.atKey (.int .u64 (f : Int)) (.lit (.int .i64 0)), ps) := fun nq =>
    World.ownsMap.look_ok (w := W.drewN nq) hown law Tryd.underlying102 (z := .int .i64 0) (by kernel_rfl) (plainElem_int Tryd.underlying3 (by decide)) hkey
  obtain ⟨v, ps, _, hv⟩ := key 0
  obtain ⟨x, rfl, hx, _⟩ := plainElem_int_inv Tryd.underlying3 hv
  refine ⟨_, x, fun nq => ?_, fun hb => hm.2 f x hb (congrArg Prod.fst hx)⟩
  obtain ⟨v2, ps2, hr2, hv2⟩ := key nq
  obtain ⟨x2, rfl, hx2, _⟩ := plainElem_int_inv Tryd.underlying3 hv2
  have : x2 = x := by
    have := (Prod.mk.inj hx2).1.symm.trans (Prod.mk.inj hx).1
    simpa using this
  subst this
  exact hr2
theorem MapIn.put {p : Nat → Nat → Prop} {Be c : Nat} {W : World} (h : MapIn p Be c W) (f t : Nat) (hf : f < 18446744073709551616) (ht : t ≤ 100) (hc : c ≤ 1152921504606846976) (hp : p f t) :
    ∃ w', (Instr.mapUpdate 102 (.map (some Be)) (.int .u64 (f : Int)) (.int .i64 (t : Int))).run Tryd.prog W = .ok () w' ∧ MapIn p Be (c + 1) w' ∧ W.grownBy w' (some Be) := by
  obtain ⟨k, D, h1, hown, hm⟩ := h
  have law : Go.Maps.Keyed Tryd.prog 77 := Go.Maps.int_keyed Tryd.underlying77
  have hkey : keyOf Tryd.prog 77 (.int .u64 (f : Int)) = some (.int .u64 (f : Int)) := Go.Maps.keyOf_int_mk Tryd.underlying77 (wf_u64 f hf)
  obtain ⟨w', hr, ho, hg⟩ := hown.update law Tryd.underlying102 (by unfold maxLen; omega) hkey (plainElem_int Tryd.underlying3 (a := (t : Int)) (wf_i64 t ht))
  exact ⟨w', hr, ⟨k + 1, _, by omega, ho, hm.put f t hp⟩, hg⟩
theorem can_of (n g Be Bs B k : Nat) (hn : n ≤ 5) (hk : k ≤ 51) (hB : B ≤ Be ∧ B ≤ Bs) (htest : ∀ j, k = j + 1 → TestSays n g Be Bs B j) : CanSays n g Be Bs B k := by
  intro f c W hf hc hG
  have HFt := Aside0.mk hf
  have HC := Aside0.mk hc
  have HK := Aside0.mk hk
  have HB := Aside0.mk hB
  have HTe := Aside0.mk htest
  have hgc1 : W.cell? ⟨g, 1, none⟩ = some (.map (some Be)) := (blk_cell hG.blk 1).trans rfl
  have hgc2 : W.cell? ⟨g, 2, none⟩ = some (.map (some Bs)) := (blk_cell hG.blk 2).trans rfl
  have HG := Aside0.mk hG
  have HL := Aside0.mk (hG.en.look f hf)
  have HS := Aside0.mk (hG.sh.look f hf)
  obtain ⟨r, hr⟩ : ∃ r, (bitsL f).length = r := ⟨_, rfl⟩
  have HM := Aside0.mk (fun w => many_calls f hf w r hr)
  have Hr := Aside0.mk hr
  have h0 : (0 : Int) ≤ (k : Int) := by omega
  have h1 : (k : Int) ≤ 51 := by omega
  clear hf hc hk hB htest hG hr
  by_cases cr : r ≤ 1
  · have c1 : decide ((r : Int) ≤ 1) = true := decide_eq_true (by omega)
    have c1b : decide (r ≤ 1) = true := decide_eq_true cr
    have HR := Aside0.mk (canL_le1 n k (bitsL f) (by rw [Hr.out]; exact cr))
    clear cr
    go_enter Tryd.func82, Tryd.ntmps82
    go_wp2_with (first | (go_at_call 83; (with_reducible refine (HM.out _).mono ?_); rintro e w' ⟨rfl, ⟨nd, rfl⟩⟩))
    go_ret
    exact ⟨by rw [HR.out]; rfl, (HG.out.below (by repeat (first | exact Below.refl _ _ | apply pw_below_drewN | apply below_drew))).mono (Nat.le_add_right _ _), KeptG.of_below (by repeat (first | exact Below.refl _ _ | apply pw_below_drewN | apply below_drew)), (by repeat (first | exact Below.refl _ _ | apply pw_below_drewN | apply below_drew))⟩
  · have c1 : decide ((r : Int) ≤ 1) = false := decide_eq_false (by omega)
    have c1b : decide (r ≤ 1) = false := decide_eq_false cr
    have Hcr := Aside0.mk cr
    clear cr
    have Hw := Aside0.mk (show wrap64 ((2 : Int) ^ k) = ((2 ^ k : Nat) : Int) by
      have h2 : 2 ^ k ≤ 2 ^ 62 := Nat.pow_le_pow_right (by decide) (by have := HK.out; omega)
      have h3 : (2 : Nat) ^ 62 = 4611686018427387904 := rfl
      rw [show ((2 : Int) ^ k) = ((2 ^ k : Nat) : Int) by simp, w64n _ (by omega)])
    by_cases ck : 2 ^ k < r
    · have HR := Aside0.mk (canL_many n k (bitsL f) (by rw [Hr.out]; exact ck))
      have c2 : decide (wrap64 ((2 : Int) ^ k) < (r : Int)) = true := by rw [Hw.out]; exact decide_eq_true (by omega)
      clear ck
      go_enter Tryd.func82, Tryd.ntmps82
      go_wp2_with (first | (go_at_call 83; (with_reducible refine (HM.out _).mono ?_); rintro e w' ⟨rfl, ⟨nd, rfl⟩⟩))
      (go_quiet ((go_at_call 83; exact quiet_add (HM.out _))))
      go_wp2
      go_ret
      exact ⟨by rw [HR.out]; rfl, (HG.out.below (by repeat (first | exact Below.refl _ _ | apply pw_below_drewN | apply below_drew))).mono (Nat.le_add_right _ _), KeptG.of_below (by repeat (first | exact Below.refl _ _ | apply pw_below_drewN | apply below_drew)), (by repeat (first | exact Below.refl _ _ | apply pw_below_drewN | apply below_drew))⟩
    · obtain ⟨j, rfl⟩ : ∃ j, k = j + 1 := by
        cases k with
        | zero => exact absurd (show 2 ^ 0 < r by have := Hcr.out; simp; omega) ck
        | succ j => exact ⟨j, rfl⟩
      have c2 : decide (wrap64 ((2 : Int) ^ (j + 1)) < (r : Int)) = false := by rw [Hw.out]; exact decide_eq_false (by omega)
      have HCk := Aside0.mk (show canL n (j + 1) (bitsL f) = decide (0 < testL n j (bitsL f)) by
        rw [canL_succ, Hr.out, decide_eq_false Hcr.out, decide_eq_true (by omega)]; simp)
      obtain ⟨bE, xE, lE, pE⟩ := HL.out
      obtain ⟨bS, xS, lS, pS⟩ := HS.out
      have PE := Aside0.mk pE
      have PS := Aside0.mk pS
      have hj1 : ((j + 1 : Nat) : Int) = (j : Int) + 1 := by omega
      rw [hj1] at h0 h1 ⊢
      have HCnt := Aside0.mk (show cntT (j + 1) = 1 + 62 * cntT j from rfl)
      have HTt := Aside0.mk (fun W' (hG' : GameAt n g Be Bs c W') => HTe.out j rfl f c W' HFt.out (by have := HC.out; rw [HCnt.out] at this; omega) hG')
      clear ck pE pS HL HS hj1
      by_cases hE : bE = true ∧ xE ≤ (j : Int) + 1
      · obtain ⟨rfl, hx⟩ := hE
        have c3 : decide (xE ≤ (j : Int) + 1) = true := decide_eq_true hx
        have HR := Aside0.mk (show canL n (j + 1) (bitsL f) = true by
          obtain ⟨t, e, hp⟩ := PE.out rfl
          exact canL_mono n (by omega) hp)
        clear hx
        go_enter Tryd.func82, Tryd.ntmps82
        go_wp2_with (first | (go_at_call 83; (with_reducible refine (HM.out _).mono ?_); rintro e w' ⟨rfl, ⟨nd, rfl⟩⟩))
        (go_quiet ((go_at_call 83; exact quiet_add (HM.out _))))
        go_wp2
        go_ret
        exact ⟨by rw [HR.out]; rfl, (HG.out.below (by repeat (first | exact Below.refl _ _ | apply pw_below_drewN | apply below_drew))).mono (Nat.le_add_right _ _), KeptG.of_below (by repeat (first | exact Below.refl _ _ | apply pw_below_drewN | apply below_drew)), (by repeat (first | exact Below.refl _ _ | apply pw_below_drewN | apply below_drew))⟩
      · have hE2 : bE = false ∨ (bE = true ∧ decide (xE ≤ (j : Int) + 1) = false) := by
          cases bE with
          | false => exact .inl rfl
          | true => exact .inr ⟨rfl, decide_eq_false (fun h => hE ⟨rfl, h⟩)⟩
        clear hE
        by_cases hS : bS = true ∧ (j : Int) + 1 ≤ xS
        · obtain ⟨rfl, hx⟩ := hS
          have c4 : decide ((j : Int) + 1 ≤ xS) = true := decide_eq_true hx
          have HR := Aside0.mk (show canL n (j + 1) (bitsL f) = false by
            obtain ⟨t, e, hp⟩ := PS.out rfl
            cases h : canL n (j + 1) (bitsL f) with
            | false => rfl
            | true =>
              have := canL_mono n (k' := t) (by omega) h
              rw [hp] at this; cases this)
          clear hx
          rcases hE2 with rfl | ⟨rfl, c3⟩
          all_goals
            go_enter Tryd.func82, Tryd.ntmps82
            go_wp2_with (first | (go_at_call 83; (with_reducible refine (HM.out _).mono ?_); rintro e w' ⟨rfl, ⟨nd, rfl⟩⟩))
            (go_quiet ((go_at_call 83; exact quiet_add (HM.out _))))
            go_wp2
            go_ret
            exact ⟨by rw [HR.out]; rfl, (HG.out.below (by repeat (first | exact Below.refl _ _ | apply pw_below_drewN | apply below_drew))).mono (Nat.le_add_right _ _), KeptG.of_below (by repeat (first | exact Below.refl _ _ | apply pw_below_drewN | apply below_drew)), (by repeat (first | exact Below.refl _ _ | apply pw_below_drewN | apply below_drew))⟩
        · have hS2 : bS = false ∨ (bS = true ∧ decide ((j : Int) + 1 ≤ xS) = false) := by
            cases bS with
            | false => exact .inl rfl
            | true => exact .inr ⟨rfl, decide_eq_false (fun h => hS ⟨rfl, h⟩)⟩
          clear hS
          by_cases ht : 0 < testL n j (bitsL f)
          · have HR := Aside0.mk (show canL n (j + 1) (bitsL f) = true by rw [HCk.out]; exact decide_eq_true ht)
            have c5 : decide ((0 : Int) < (testL n j (bitsL f) : Int)) = true := decide_eq_true (by omega)
            have c5b : decide (0 < testL n j (bitsL f)) = true := decide_eq_true ht
            clear ht
            generalize testL n j (bitsL f) = tt at *
            rcases hE2 with rfl | ⟨rfl, c3⟩
            all_goals rcases hS2 with rfl | ⟨rfl, c4⟩
            all_goals
              go_enter Tryd.func82, Tryd.ntmps82
              go_wp2_with (first | (go_at_call 83; (with_reducible refine (HM.out _).mono ?_); rintro e w' ⟨rfl, ⟨nd, rfl⟩⟩))
              (go_quiet ((go_at_call 83; exact quiet_add (HM.out _))))
              go_wp2_with (first | (go_at_call 84; (with_reducible refine (HTt.out _ (HG.out.below (by repeat (first | exact Below.refl _ _ | apply pw_below_drewN | apply below_drew)))).mono ?_); rintro e w5 ⟨rfl, hG5, hk5, hb5⟩; have HG5 := Aside0.mk hG5; have HK5 := Aside0.mk hk5; have HB5 := Aside0.mk hb5; have hd1 := (blk_cell hG5.blk 1).trans rfl; have hd2 := (blk_cell hG5.blk 2).trans rfl; obtain ⟨w7, hrun7, hm7, hg7⟩ := hG5.en.put f (j + 1) HFt.out (by have := HK.out; omega) (by have := HC.out; rw [HCnt.out] at this; omega) HR.out; rw [show ((j + 1 : Nat) : Int) = (j : Int) + 1 from by omega] at hrun7; have HM7 := Aside0.mk hm7; have HG7 := Aside0.mk hg7; clear hG5 hk5 hb5 hm7 hg7))
              go_ret
              exact ⟨by rw [HR.out]; rfl, (HG5.out.put_en HG7.out HM7.out).mono (by rw [HCnt.out]; omega), (KeptG.of_below (by repeat (first | exact Below.refl _ _ | apply pw_below_drewN | apply below_drew))).trans (HK5.out.trans (Kept.of_grown HG7.out (Kept.refl _ _) (fun k hk => .inl (.inl (by injection hk with hk; exact hk.symm))))), (Below.trans (by repeat (first | exact Below.refl _ _ | apply pw_below_drewN | apply below_drew)) HB5.out).trans (Below.grown (Below.refl _ _) HG7.out (Nat.le_trans HB.out.1 (Nat.le_of_lt (blk_lt HG5.out.en.isMap.choose_spec.choose_spec))) (fun k hk => by injection hk with hk; rw [← hk]; exact HB.out.1))⟩
          · have HR := Aside0.mk (show canL n (j + 1) (bitsL f) = false by rw [HCk.out]; exact decide_eq_false ht)
            have c5 : decide ((0 : Int) < (testL n j (bitsL f) : Int)) = false := decide_eq_false (by omega)
            have c5b : decide (0 < testL n j (bitsL f)) = false := decide_eq_false ht
            clear ht
            generalize testL n j (bitsL f) = tt at *
            rcases hE2 with rfl | ⟨rfl, c3⟩
            all_goals rcases hS2 with rfl | ⟨rfl, c4⟩
            all_goals
              go_enter Tryd.func82, Tryd.ntmps82
              go_wp2_with (first | (go_at_call 83; (with_reducible refine (HM.out _).mono ?_); rintro e w' ⟨rfl, ⟨nd, rfl⟩⟩))
              (go_quiet ((go_at_call 83; exact quiet_add (HM.out _))))
              go_wp2_with (first | (go_at_call 84; (with_reducible refine (HTt.out _ (HG.out.below (by repeat (first | exact Below.refl _ _ | apply pw_below_drewN | apply below_drew)))).mono ?_); rintro e w5 ⟨rfl, hG5, hk5, hb5⟩; have HG5 := Aside0.mk hG5; have HK5 := Aside0.mk hk5; have HB5 := Aside0.mk hb5; have hd1 := (blk_cell hG5.blk 1).trans rfl; have hd2 := (blk_cell hG5.blk 2).trans rfl; obtain ⟨w7, hrun7, hm7, hg7⟩ := hG5.sh.put f (j + 1) HFt.out (by have := HK.out; omega) (by have := HC.out; rw [HCnt.out] at this; omega) HR.out; rw [show ((j + 1 : Nat) : Int) = (j : Int) + 1 from by omega] at hrun7; have HM7 := Aside0.mk hm7; have HG7 := Aside0.mk hg7; clear hG5 hk5 hb5 hm7 hg7))
              go_ret
              exact ⟨by rw [HR.out]; rfl, (HG5.out.put_sh HG7.out HM7.out).mono (by rw [HCnt.out]; omega), (KeptG.of_below (by repeat (first | exact Below.refl _ _ | apply pw_below_drewN | apply below_drew))).trans (HK5.out.trans (Kept.of_grown HG7.out (Kept.refl _ _) (fun k hk => .inl (.inr (by injection hk with hk; exact hk.symm))))), (Below.trans (by repeat (first | exact Below.refl _ _ | apply pw_below_drewN | apply below_drew)) HB5.out).trans (Below.grown (Below.refl _ _) HG7.out (Nat.le_trans HB.out.2 (Nat.le_of_lt (blk_lt HG5.out.sh.isMap.choose_spec.choose_spec))) (fun k hk => by injection hk with hk; rw [← hk]; exact HB.out.2))⟩
theorem can_says (n g Be Bs B : Nat) (hn : n ≤ 5) (hB : B ≤ Be ∧ B ≤ Bs) : ∀ k, k ≤ 51 → CanSays n g Be Bs B k := by
  intro k
  induction k with
  | zero => intro hk; exact can_of n g Be Bs B 0 hn hk hB (fun j e => by cases e)
  | succ k ih => intro hk; exact can_of n g Be Bs B (k + 1) hn hk hB (fun j e => by injection e with e; subst e; exact test_of n g Be Bs B _ hn (by omega) hB (ih (by omega)))
theorem test_says (n g Be Bs B : Nat) (hn : n ≤ 5) (hB : B ≤ Be ∧ B ≤ Bs) (k : Nat) (hk : k ≤ 50) : TestSays n g Be Bs B k := test_of n g Be Bs B k hn hk hB (can_says n g Be Bs B hn hB k (by omega))
end Go.Proofs.YtglajokjiphafaaDoor.P

set_option linter.unusedSimpArgs false
set_option linter.unusedVariables false
namespace Go.Proofs.YtglajokjiphafaaDoor.P
open Go.Lib Go.RowKit Go.Proofs.YtglajokjiphafaaDoorW.PrintWords Go.Proofs.YtglajokjiphafaaDoorW.PrintLast Go.Proofs.YtglajokjiphafaaDoorW.PrintMore Go.Proofs.YtglajokjiphafaaDoor.Kit
attribute [local go_sem] max2_int min2_int max_two min_two max_three min_three max_four min_four

/-- The fewest tests, of those up to K. -/
def fewL (n K : Nat) (L : List Nat) : Nat := ((List.range' 0 (K + 1)).find? fun j => canL n j L).getD 0
theorem fewL_spec (n K : Nat) (L : List Nat) (h : canL n K L = true) : canL n (fewL n K L) L = true ∧ fewL n K L ≤ K ∧ ∀ j, j < fewL n K L → canL n j L = false := by
  unfold fewL
  cases hf : (List.range' 0 (K + 1)).find? fun j => canL n j L with
  | none =>
    have := List.find?_eq_none.1 hf K (by simp)
    exact absurd h this
  | some i =>
    obtain ⟨h1, la, lb, h2, h3⟩ := List.find?_eq_some_iff_append.1 hf
    have hm := List.mem_of_find?_eq_some hf
    have hi : i ≤ K := by have := (List.mem_range'_1.1 hm).2; omega
    refine ⟨h1, hi, fun j hj => ?_⟩
    have hji : j < i := hj
    have hj2 : j ∈ la := by
      have hl : la.length = i := by
        have h4 : (List.range' 0 (K + 1))[la.length]? = some i := by rw [h2]; simp
        have h5 := List.getElem?_eq_some_iff.1 h4
        obtain ⟨hlt, h6⟩ := h5
        simpa using h6
      have h4 : (List.range' 0 (K + 1))[j]? = some j := by
        rw [List.getElem?_eq_getElem (by simp; omega)]; simp
      rw [h2, List.getElem?_append_left (by omega)] at h4
      exact List.mem_of_getElem? h4
    have := h3 j hj2
    cases hc : canL n j L with
    | false => rfl
    | true => rw [hc] at this; cases this
theorem cntT_mono {i j : Nat} (h : i ≤ j) : cntT i ≤ cntT j := by
  induction h with
  | refl => exact Nat.le_refl _
  | step _ ih => rw [cntT]; omega
theorem cntT6 : cntT 6 ≤ 2000000000 := by decide
set_option maxHeartbeats 4000000
set_option maxRecDepth 100000
theorem fewest_says (n g Be Bs B K : Nat) (hn : n ≤ 5) (hK : K ≤ 6) (hB : B ≤ Be ∧ B ≤ Bs) (f c : Nat) (W : World) (hf : f < 18446744073709551616) (hc : c + 7 * cntT 6 ≤ 1152921504606846976) (hG : GameAt n g Be Bs c W) (hcan : canL n K (bitsL f) = true) :
    Calls Tryd.prog 53 #[.pointer (some ⟨g, 0, none⟩), .int .u64 (f : Int)] W fun e w' => e = .returned (.int .i64 (fewL n K (bitsL f) : Int)) ∧ GameAt n g Be Bs (c + 7 * cntT 6) w' ∧ KeptG Be Bs W w' ∧ Below B W w' := by
  have hs := fewL_spec n K (bitsL f) hcan
  have HS := Aside0.mk hs
  have HCan := Aside0.mk (can_says n g Be Bs B hn hB)
  have HFt := Aside0.mk hf
  have HC := Aside0.mk hc
  have HG := Aside0.mk hG
  have HK := Aside0.mk hK
  clear hs hf hc hG hK hB hcan
  generalize fewL n K (bitsL f) = r at *
  go_enter Tryd.func53, Tryd.ntmps53
  go_wp2
  go_loopw [5] (fun v5 w' => ∃ i : Nat, v5 = .int .i64 (i : Int) ∧ Aside0 (i ≤ r) ∧ Aside0 (∃ c', c' + (7 - i) * cntT 6 ≤ c + 7 * cntT 6 ∧ GameAt n g Be Bs c' w') ∧ Aside0 (KeptG Be Bs W w') ∧ Aside0 (Below B W w')) (fun v _ => r - (intOf v).toNat)
  case atStart => exact ⟨0, rfl, ⟨Nat.zero_le _⟩, ⟨⟨c, by omega, HG.out⟩⟩, ⟨KeptG.refl _ _ _⟩, ⟨Below.refl _ _⟩⟩
  case round =>
    clear HG
    obtain ⟨i, rfl, Hi, HGx, HKp, HBl⟩ := hrel
    obtain ⟨c', hc', hG⟩ := HGx.out
    have HG := Aside0.mk hG
    have HCx := Aside0.mk (show c' + cntT i + (7 - (i + 1)) * cntT 6 ≤ c + 7 * cntT 6 by
      have h1 := cntT_mono (show i ≤ 6 by have := Hi.out; have := HS.out.2.1; have := HK.out; omega)
      rw [show 7 - i = (7 - (i + 1)) + 1 by have := Hi.out; have := HS.out.2.1; have := HK.out; omega, Nat.succ_mul] at hc'
      omega)
    have HCi := Aside0.mk (fun W (hG : GameAt n g Be Bs c' W) => HCan.out i (by have := Hi.out; have := HS.out.2.1; have := HK.out; omega) f c' W HFt.out (by have := HCx.out; have := HC.out; omega) hG)
    have Hw := Aside0.mk (show wrap64 ((i : Int) + 1) = ((i + 1 : Nat) : Int) from wrap1 (by have := Hi.out; have := HS.out.2.1; have := HK.out; omega))
    clear hc' hG HGx
    by_cases ci : i < r
    · have Hci := Aside0.mk ci
      have hv := HS.out.2.2 i ci
      rw [hv] at HCi
      clear ci hv
      go_wp2_with (first | (go_at_call 82; (with_reducible refine (HCi.out _ HG.out).mono ?_); rintro e w5 ⟨rfl, hG5, hk5, hb5⟩; have HG5 := Aside0.mk hG5; have HK5 := Aside0.mk hk5; have HB5 := Aside0.mk hb5; clear hG5 hk5 hb5))
      go_roundw
      case rel => exact ⟨i + 1, by rw [Hw.out], ⟨Hci.out⟩, ⟨⟨c' + cntT i, HCx.out, HG5.out⟩⟩, ⟨HKp.out.trans HK5.out⟩, ⟨HBl.out.trans HB5.out⟩⟩
      case measure => rw [Hw.out]; have := Hci.out; simp [intOf]; omega
    · have he : i = r := by have := Hi.out; omega
      subst he
      have hv := HS.out.1
      rw [hv] at HCi
      clear ci hv
      go_wp2_with (first | (go_at_call 82; (with_reducible refine (HCi.out _ HG.out).mono ?_); rintro e w5 ⟨rfl, hG5, hk5, hb5⟩; have HG5 := Aside0.mk hG5; have HK5 := Aside0.mk hk5; have HB5 := Aside0.mk hb5; clear hG5 hk5 hb5))
      go_ret
      exact ⟨rfl, HG5.out.mono (by have := HCx.out; omega), HKp.out.trans HK5.out, HBl.out.trans HB5.out⟩
theorem cut_length (t : Nat) : ∀ L : List Nat, (cutA t L).length + (cutB t L).length = L.length
  | [] => rfl
  | s :: L => by
    have ih := cut_length t L
    unfold cutA cutB at *
    by_cases h : s &&& t = 0
    · simp [h]; omega
    · simp [h]; omega
/-- The tests of a strategy. -/
def planL (n K : Nat) : Nat → List Nat → List Nat
  | 0, _ => []
  | q + 1, L => if L.length ≤ 1 then [] else
    testL n (fewL n K L - 1) L :: (planL n K q (cutA (testL n (fewL n K L - 1) L) L) ++ planL n K q (cutB (testL n (fewL n K L - 1) L) L))
theorem testL_spec (n k : Nat) (L : List Nat) (h : 0 < testL n k L) : testC n k L (testL n k L) = true := by
  unfold testL at *
  cases hf : (List.range' 1 (2 ^ n - 1)).find? (testC n k L) with
  | none => rw [hf] at h; exact absurd h (by simp)
  | some t => exact List.find?_some hf
theorem plan_step (n K : Nat) (L : List Nat) (h : canL n K L = true) (hl : 1 < L.length) :
    ∃ j, fewL n K L = j + 1 ∧ j + 1 ≤ K ∧ 0 < testL n j L ∧ cutA (testL n j L) L ≠ [] ∧ cutB (testL n j L) L ≠ [] ∧ canL n K (cutA (testL n j L) L) = true ∧ canL n K (cutB (testL n j L) L) = true := by
  obtain ⟨h1, h2, h3⟩ := fewL_spec n K L h
  cases hf : fewL n K L with
  | zero =>
    rw [hf] at h1
    simp only [canL, decide_eq_true_eq] at h1
    omega
  | succ j =>
    rw [hf] at h1 h2
    rw [canL_succ, decide_eq_false (by omega), Bool.false_or, Bool.and_eq_true, decide_eq_true_eq, decide_eq_true_eq] at h1
    have h4 := testL_spec n j L h1.2
    simp only [testC, Bool.and_eq_true, Bool.not_eq_true', List.isEmpty_eq_false_iff] at h4
    exact ⟨j, rfl, h2, h1.2, h4.1, h4.2.1, canL_mono n (by omega) h4.2.2.1, canL_mono n (by omega) h4.2.2.2⟩
theorem planL_length (n K : Nat) : ∀ (q : Nat) (L : List Nat), canL n K L = true → L.length ≤ q → (planL n K q L).length = L.length - 1 := by
  intro q
  induction q with
  | zero => intro L _ h; simp [planL]; omega
  | succ q ih =>
    intro L hc hl
    unfold planL
    by_cases h1 : L.length ≤ 1
    · rw [if_pos h1]; simp; omega
    · rw [if_neg h1]
      obtain ⟨j, hj, _, ht, ha, hb, ca, cb⟩ := plan_step n K L hc (by omega)
      rw [hj, Nat.add_sub_cancel]
      have hsum := cut_length (testL n j L) L
      have la := List.length_pos_iff.2 ha
      have lb := List.length_pos_iff.2 hb
      rw [List.length_cons, List.length_append, ih _ ca (by omega), ih _ cb (by omega)]
      omega
/-- A row of numbers of the call's own. -/
def OwnI (B : Nat) (W : World) (v : Value) (l : List Int) : Prop := W.ownsRow B 3 1 v l.length (nums .i64 l)
theorem OwnI.below {B : Nat} {W W' : World} {v : Value} {l : List Int} (h : OwnI B W v l) (hb : Below W.heap.size W W') : OwnI B W' v l := own_move h (fun k hk => by
  obtain ⟨cells, hc⟩ := own_typed h k hk
  exact hb.block k (blk_lt hc))
theorem OwnI.keptG {n g Be Bs c B : Nat} {W W' : World} {v : Value} {l : List Int} (h : OwnI B W v l) (hG : GameAt n g Be Bs c W) (hk : KeptG Be Bs W W') : OwnI B W' v l := own_move h (fun k hk' => by
  obtain ⟨cells, hc⟩ := own_typed h k hk'
  refine hk.2 k (blk_lt hc) ?_
  rintro (e | e)
  · obtain ⟨es, cl, hb⟩ := hG.en.isMap
    rw [e, hb] at hc; cases hc
  · obtain ⟨es, cl, hb⟩ := hG.sh.isMap
    rw [e, hb] at hc; cases hc)
theorem own_base {B e size n : Nat} {W : World} {v : Value} {xs : List Value} (h : W.ownsRow B e size v n xs) (k : Nat) (hk : v.ownBlock = some k) : B ≤ k := by
  rcases h.2 with ⟨rfl, _⟩ | ⟨g, cap, cur, rfl, hg, _⟩
  · simp [Value.ownBlock] at hk
  · have : g = k := by simpa [Value.ownBlock] using hk
    omega
theorem GameAt.appended {n g Be Bs c B : Nat} {W W1 : World} {v : Value} {l : List Int} (hG : GameAt n g Be Bs c W) (ho : OwnI B W v l) (hB : 0 < B) (hg : W.grownBy W1 v.ownBlock) : GameAt n g Be Bs c W1 := by
  have hk : Kept W W1 (fun k => v.ownBlock = some k) := ⟨hg.size, fun i hi hn => hg.block i hi (fun e => hn e.symm)⟩
  obtain ⟨es, cl, hb⟩ := hG.en.isMap
  obtain ⟨es2, cl2, hb2⟩ := hG.sh.isMap
  refine ⟨hG.tab.kept hk (fun a b d _ e => ?_), blk_kept hG.blk hk (fun e => ?_), hG.en.kept hk (fun e => ?_), hG.sh.kept hk (fun e => ?_), hG.ne⟩
  · have := own_base ho _ e; omega
  · obtain ⟨cells, hc⟩ := own_typed ho _ e
    have := hG.blk; rw [this] at hc; injection hc with hc; injection hc with _ ht _; revert ht; decide
  · obtain ⟨cells, hc⟩ := own_typed ho _ e
    rw [hb] at hc; cases hc
  · obtain ⟨cells, hc⟩ := own_typed ho _ e
    rw [hb2] at hc; cases hc
theorem own_snoc {B : Nat} {W : World} {v : Value} {l : List Int} {s : Int} (h : W.ownsRow B 3 1 v (l.length + 1) (nums .i64 l ++ [.int .i64 s])) : OwnI B W v (l ++ [s]) := by
  unfold OwnI
  have hl : (l ++ [s]).length = l.length + 1 := by simp
  rw [hl, nums_append]
  exact h
def PlanSays (n g Be Bs B K q : Nat) : Prop := ∀ (f c : Nat) (W : World) (v : Value) (out : List Int), f < 18446744073709551616 → (bitsL f).length ≤ q → canL n K (bitsL f) = true → c + ((bitsL f).length - 1) * (8 * cntT 6) ≤ 1152921504606846976 → out.length + (bitsL f).length ≤ 1000 →
  GameAt n g Be Bs c W → B ≤ W.heap.size → OwnI B W v out →
  Calls Tryd.prog 57 #[.pointer (some ⟨g, 0, none⟩), .int .u64 (f : Int), v] W fun e w' => ∃ v', e = .returned v' ∧ GameAt n g Be Bs (c + ((bitsL f).length - 1) * (8 * cntT 6)) w' ∧ OwnI B w' v' (out ++ (planL n K q (bitsL f)).map fun (t : Nat) => (t : Int)) ∧ Below B W w'
theorem plan_le1 (n g Be Bs B K q : Nat) (f c : Nat) (W : World) (v : Value) (out : List Int) (hf : f < 18446744073709551616) (hl : (bitsL f).length ≤ 1) (hG : GameAt n g Be Bs c W) (ho : OwnI B W v out) :
    Calls Tryd.prog 57 #[.pointer (some ⟨g, 0, none⟩), .int .u64 (f : Int), v] W fun e w' => ∃ v', e = .returned v' ∧ GameAt n g Be Bs (c + ((bitsL f).length - 1) * (8 * cntT 6)) w' ∧ OwnI B w' v' (out ++ (planL n K q (bitsL f)).map fun (t : Nat) => (t : Int)) ∧ Below B W w' := by
  have HG := Aside0.mk hG
  have HO := Aside0.mk ho
  have hp : planL n K q (bitsL f) = [] := by cases q <;> simp [planL, hl]
  have HP := Aside0.mk hp
  have HLz := Aside0.mk (show (bitsL f).length - 1 = 0 by omega)
  obtain ⟨r, hr⟩ : ∃ r, (bitsL f).length = r := ⟨_, rfl⟩
  have HM := Aside0.mk (fun w => many_calls f hf w r hr)
  have c1 : decide ((r : Int) ≤ 1) = true := decide_eq_true (by omega)
  have c1b : decide (r ≤ 1) = true := decide_eq_true (by omega)
  clear hG ho hp hr hl hf
  go_enter Tryd.func57, Tryd.ntmps57
  go_wp2_with (first | (go_at_call 83; (with_reducible refine (HM.out _).mono ?_); rintro e w' ⟨rfl, ⟨nd, rfl⟩⟩))
  go_ret
  refine ⟨v, rfl, ?_, ?_, pw_below_drewN (Below.refl _ _) _⟩
  · rw [HLz.out, Nat.zero_mul]; exact HG.out.drewN _
  · rw [HP.out]; simpa using HO.out.below (pw_below_drewN (Below.refl _ _) _)
theorem plan_says (n g Be Bs B K : Nat) (hn : n ≤ 5) (hK : K ≤ 6) (hB : B ≤ Be ∧ B ≤ Bs) (hB0 : 0 < B) : ∀ q, PlanSays n g Be Bs B K q := by
  intro q
  induction q with
  | zero => intro f c W v out hf hl hcan hc ho hG hBW hO; exact plan_le1 n g Be Bs B K 0 f c W v out hf (by omega) hG hO
  | succ q ih =>
    intro f c W v out hf hl hcan hc ho hG hBW hO
    by_cases h1 : (bitsL f).length ≤ 1
    · exact plan_le1 n g Be Bs B K (q + 1) f c W v out hf h1 hG hO
    · obtain ⟨j, hj, hjK, ht, ha, hb, ca, cb⟩ := plan_step n K (bitsL f) hcan (by omega)
      have hP : planL n K (q + 1) (bitsL f) = testL n j (bitsL f) :: (planL n K q (cutA (testL n j (bitsL f)) (bitsL f)) ++ planL n K q (cutB (testL n j (bitsL f)) (bitsL f))) := by
        show (if (bitsL f).length ≤ 1 then [] else _) = _
        rw [if_neg h1, hj, Nat.add_sub_cancel]
      have htl := testL_lt n j (bitsL f)
      have hp5 := pow5 hn
      have hA := bitsL_hit (testL n j (bitsL f)) f hf
      have hBm := bitsL_miss (testL n j (bitsL f)) f hf
      have hsum := cut_length (testL n j (bitsL f)) (bitsL f)
      have hla := List.length_pos_iff.2 ha
      have hlb := List.length_pos_iff.2 hb
      have hpa := planL_length n K q (cutA (testL n j (bitsL f)) (bitsL f)) ca (by omega)
      have hmul : 8 * cntT 6 ≤ ((bitsL f).length - 1) * (8 * cntT 6) := Nat.le_mul_of_pos_left _ (by omega)
      have HF := Aside0.mk (fun W (hG : GameAt n g Be Bs c W) => fewest_says n g Be Bs B K hn hK hB f c W hf (by omega) hG hcan)
      rw [hj] at HF
      have h7 := cntT_mono (show j + 1 ≤ 6 by omega)
      rw [cntT] at h7
      have H7 := Aside0.mk h7
      have HT := Aside0.mk (fun W (hG : GameAt n g Be Bs (c + 7 * cntT 6) W) => test_says n g Be Bs B hn hB j (by omega) f (c + 7 * cntT 6) W hf (by omega) hG)
      have HPt := Aside0.mk (fun W (hT : TabG W) => parted_calls f (testL n j (bitsL f)) hf (by omega) W hT)
      have hhl := hitN_lt (testL n j (bitsL f)) f
      have hml := andn_lt (hitN (testL n j (bitsL f)) f) hf
      have hcA : cutA (testL n j (bitsL f)) (bitsL f) = bitsL (hitN (testL n j (bitsL f)) f) := hA.symm
      have hcB : cutB (testL n j (bitsL f)) (bitsL f) = bitsL (andn f (hitN (testL n j (bitsL f)) f)) := hBm.symm
      rw [hcA, hcB] at hP hsum
      rw [hcA] at hla ca hpa
      rw [hcB] at hlb cb
      obtain ⟨r, hr⟩ : ∃ r, (bitsL f).length = r := ⟨_, rfl⟩
      have HM := Aside0.mk (fun w => many_calls f hf w r hr)
      rw [hr] at hsum hl hc ho ⊢
      have c1 : decide ((r : Int) ≤ 1) = false := decide_eq_false (by omega)
      have c1b : decide (r ≤ 1) = false := decide_eq_false (by omega)
      have HPl := Aside0.mk hP
      clear hP htl hp5 hA hBm hcA hcB ha hb hcan hf h1 ht hj hr
      generalize testL n j (bitsL f) = tt at *
      generalize andn f (hitN tt f) = m at *
      generalize hitN tt f = h at *
      have HIa := Aside0.mk (fun c W v out h1 h2 h3 h4 h5 => ih h c W v out hhl (by omega) ca h1 h2 h3 h4 h5)
      have HIb := Aside0.mk (fun c W v out h1 h2 h3 h4 h5 => ih m c W v out hml (by omega) cb h1 h2 h3 h4 h5)
      have HG := Aside0.mk hG
      have HO := Aside0.mk hO
      have HBW := Aside0.mk hBW
      have Hmul := Aside0.mk (show (r - 1) * (8 * cntT 6) = 8 * cntT 6 + ((bitsL h).length - 1) * (8 * cntT 6) + ((bitsL m).length - 1) * (8 * cntT 6) by
        rw [show r - 1 = 1 + ((bitsL h).length - 1) + ((bitsL m).length - 1) by omega, Nat.add_mul, Nat.add_mul, Nat.one_mul])
      have Hnum := Aside0.mk (And.intro hsum (And.intro hla (And.intro hlb (And.intro hc (And.intro ho (And.intro hpa hB0))))))
      have hi3 := info3
      obtain ⟨i0', hi0, hi1⟩ := Option.map_eq_some_iff.1 hi3
      injection hi1 with hz0 hi2
      injection hi2 with hz1 hz2
      have hI0 := Aside0.mk (show Tryd.prog.info? 3 = some i0' from hi0)
      have hZ0 := Aside0.mk hz0
      have hZ1 := Aside0.mk hz1
      have hZ2 := Aside0.mk hz2
      clear hi3 hi0 hz0 hz1 hz2 hG hO hBW hsum hla hlb hc ho hpa hhl hml ca cb ih hl
      go_enter Tryd.func57, Tryd.ntmps57
      go_wp2_with (first | (go_at_call 83; (with_reducible refine (HM.out _).mono ?_); rintro e w' ⟨rfl, ⟨nd, rfl⟩⟩) | (go_at_call 53; (with_reducible refine (HF.out _ (HG.out.drewN nd)).mono ?_); rintro e w1 ⟨rfl, hG1, hk1, hb1⟩; have HO1 := Aside0.mk ((HO.out.below (pw_below_drewN (Below.refl _ _) nd)).keptG (HG.out.drewN nd) hk1); have HG1 := Aside0.mk hG1; have HB1 := Aside0.mk (Below.trans (pw_below_drewN (Below.refl B W) nd) hb1); clear hG1 hk1 hb1) | (go_at_call 84; (with_reducible refine (HT.out _ HG1.out).mono ?_); rintro e w2 ⟨rfl, hG2, hk2, hb2⟩; have HO2 := Aside0.mk (HO1.out.keptG HG1.out hk2); have HG2 := Aside0.mk (hG2.mono (show _ ≤ c + 8 * cntT 6 by have := H7.out; omega)); have HB2 := Aside0.mk (HB1.out.trans hb2); clear hG2 hk2 hb2) | (go_at_call 85; (with_reducible refine (HPt.out _ HG2.out.tab).mono ?_); rintro e w' ⟨rfl, ⟨nd2, rfl⟩⟩) | ((with_reducible refine gate_dst (N := 33) rfl ?_); refine wpList_append_own_at _ (by rfl) (.tmp 30) (.tmp 32) 25 (by rfl) B 3 i0' (.int .i64 0) 1 8 Tryd.underlying25 hI0.out hZ0.out hZ1.out hZ2.out (by rfl) (by decide) v out.length (nums .i64 out) (by rfl) ?hown ⟨_, 0, none⟩ 1 1 [.int .i64 (tt : Int)] (by rfl) (by rfl) ?hnews ?hone ?h63 ?hby ?hbase ?_; (case hown => exact HO2.out.below (below_alloc (pw_below_drewN (Below.refl _ _) _) _)); (case hnews => exact cell_one_new _ _ _); (case hone => intro u hu; have hu2 := List.mem_singleton.1 hu; subst hu2; rfl); (case h63 => unfold maxLen; have := Hnum.out.2.2.2.2.1; omega); (case hby => have := Hnum.out.2.2.2.2.1; omega); (case hbase => exact Nat.le_trans (Nat.le_trans HBW.out HB2.out.size) (below_alloc (pw_below_drewN (Below.refl w2.heap.size w2) nd2) _).size); intro v9 w9 ho9 hg9 _ _; have HG9 := Aside0.mk ((HG2.out.below (below_alloc (pw_below_drewN (Below.refl _ _) nd2) _)).appended (HO2.out.below (below_alloc (pw_below_drewN (Below.refl _ _) nd2) _)) Hnum.out.2.2.2.2.2.2 hg9); have HO9 := Aside0.mk (own_snoc ho9); have HB9 := Aside0.mk (Below.grown (below_then HB2.out (Nat.le_trans HBW.out HB2.out.size) (below_alloc (pw_below_drewN (Below.refl w2.heap.size w2) nd2) _)) hg9 (Nat.le_trans (Nat.le_trans HBW.out HB2.out.size) (below_alloc (pw_below_drewN (Below.refl w2.heap.size w2) nd2) _).size) (fun k hk => own_base HO2.out k hk)); clear ho9 hg9) | (go_at_call 57; (with_reducible refine (HIa.out (c + 8 * cntT 6) _ v9 (out ++ [(tt : Int)]) ?k1 ?k2 HG9.out (Nat.le_trans HBW.out HB9.out.size) HO9.out).mono ?_); (case k1 => have := Hmul.out; have := Hnum.out.2.2.2.1; omega); (case k2 => have := Hnum.out; simp; omega); rintro e w10 ⟨v10, rfl, hG10, hO10, hb10⟩; have HG10 := Aside0.mk hG10; have HO10 := Aside0.mk hO10; have HB10 := Aside0.mk (HB9.out.trans hb10); clear hG10 hO10 hb10) | (go_at_call 57; (with_reducible refine (HIb.out _ _ v10 _ ?k1 ?k2 HG10.out (Nat.le_trans HBW.out HB10.out.size) HO10.out).mono ?_); (case k1 => have := Hmul.out; have := Hnum.out.2.2.2.1; omega); (case k2 => have := Hnum.out; simp; omega); rintro e w11 ⟨v11, rfl, hG11, hO11, hb11⟩; have HG11 := Aside0.mk hG11; have HO11 := Aside0.mk hO11; have HB11 := Aside0.mk (HB10.out.trans hb11); clear hG11 hO11 hb11))
      go_ret
      refine ⟨v11, rfl, ?_, ?_, HB11.out⟩
      · have h1 := HG11.out
        rw [Hmul.out]
        exact h1.mono (by omega)
      · have h1 := HO11.out
        rw [HPl.out]
        simpa using h1
end Go.Proofs.YtglajokjiphafaaDoor.P

set_option linter.unusedSimpArgs false
set_option linter.unusedVariables false
namespace Go.Proofs.YtglajokjiphafaaDoor.P
open Go.Lib Go.RowKit Go.Proofs.YtglajokjiphafaaDoorW.PrintWords Go.Proofs.YtglajokjiphafaaDoorW.PrintLast Go.Proofs.YtglajokjiphafaaDoorW.PrintMore Go.Proofs.YtglajokjiphafaaDoor.Kit
attribute [local go_sem] max2_int min2_int max_two min_two max_three min_three max_four min_four

/-- All sets of at most d of n tubes. -/
def setsL (n d : Nat) : List Nat := (List.range (2 ^ n)).filter fun s => decide (Lib.onesCount s ≤ d)
def allN (d i : Nat) : Nat := sumOf (fun s => decide (Lib.onesCount s ≤ d)) (List.range i)
theorem allN_lt (d i : Nat) (hi : i ≤ 64) : allN d i < 18446744073709551616 := sumOf_lt _ _ (fun s hs => by have := List.mem_range.1 hs; omega)
theorem sumOf_append (p : Nat → Bool) : ∀ a b : List Nat, sumOf p (a ++ b) = sumOf p a ||| sumOf p b
  | [], b => by simp [sumOf]
  | s :: a, b => by rw [List.cons_append, sumOf, sumOf, sumOf_append p a b, Nat.or_assoc]
theorem allN_succ (d i : Nat) : allN d (i + 1) = allN d i ||| (if Lib.onesCount i ≤ d then 2 ^ i else 0) := by
  unfold allN
  rw [List.range_succ, sumOf_append]
  simp [sumOf]
theorem filter_range_take (p : Nat → Bool) : ∀ (b a : Nat), a ≤ b → (List.range b).filter (fun s => decide (s < a) && p s) = (List.range a).filter p := by
  intro b
  induction b with
  | zero => intro a h; have : a = 0 := by omega
            subst this; rfl
  | succ b ih =>
    intro a h
    rw [List.range_succ, List.filter_append]
    by_cases e : a = b + 1
    · subst e
      rw [List.range_succ, List.filter_append]
      have h2 : ∀ l : List Nat, (∀ s ∈ l, s < b + 1) → l.filter (fun s => decide (s < b + 1) && p s) = l.filter p := fun l hl => List.filter_congr fun s hs => by
        rw [decide_eq_true (hl s hs), Bool.true_and]
      rw [h2 _ (fun s hs => by have := List.mem_range.1 hs; omega), h2 _ (fun s hs => by have := List.mem_singleton.1 hs; omega)]
    · rw [ih a (by omega)]
      have : ¬ b < a := by omega
      simp [this]
theorem bitsL_all (n d : Nat) (hn : n ≤ 5) : bitsL (allN d (2 ^ n)) = setsL n d := by
  have hp := pow5 hn
  unfold bitsL setsL
  rw [← filter_range_take _ 64 (2 ^ n) (by omega)]
  refine List.filter_congr fun s _ => ?_
  rw [allN, testBit_sumOf]
  simp
theorem ones_calls (s : Nat) (hs : s < 18446744073709551616) (w : World) : Calls Tryd.prog 80 #[.int .u64 (s : Int)] w fun e w' => e = .returned (.int .i64 (Lib.onesCount s : Int)) ∧ Drawn0 w w' := by
  refine bits_OnesCount.calls (s : Int) _ w ?_
  unfold bits_OnesCount.f
  rw [if_pos (by omega), Int.toNat_natCast]
/-- Are these the numbers of a game? -/
def gameOk (n d : Int) : Bool := decide (1 ≤ n ∧ n ≤ 5 ∧ 0 ≤ d ∧ d ≤ n)
set_option maxHeartbeats 4000000
set_option maxRecDepth 100000
theorem started_no (n d : Int) (h : gameOk n d = false) (W : World) : Calls Tryd.prog 52 #[.int .i64 n, .int .i64 d] W fun e w' => e = .returned (.tuple #[.pointer none, .int .u64 0, .int .i64 2]) ∧ Drawn0 W w' := by
  have h' : n < 1 ∨ (¬ n < 1 ∧ 5 < n) ∨ (¬ n < 1 ∧ ¬ 5 < n ∧ d < 0) ∨ (¬ n < 1 ∧ ¬ 5 < n ∧ ¬ d < 0 ∧ n < d) := by
    unfold gameOk at h
    have := of_decide_eq_false h
    omega
  clear h
  rcases h' with h1 | ⟨h1, h2⟩ | ⟨h1, h2, h3⟩ | ⟨h1, h2, h3, h4⟩
  · have c1 := decide_eq_true h1
    clear h1
    go_enter Tryd.func52, Tryd.ntmps52
    go_wp2
    go_ret3
    exact ⟨rfl, Drawn0.refl _⟩
  · have c1 := decide_eq_false h1
    have c2 := decide_eq_true h2
    clear h1 h2
    go_enter Tryd.func52, Tryd.ntmps52
    go_wp2
    go_ret3
    exact ⟨rfl, Drawn0.refl _⟩
  · have c1 := decide_eq_false h1
    have c2 := decide_eq_false h2
    have c3 := decide_eq_true h3
    clear h1 h2 h3
    go_enter Tryd.func52, Tryd.ntmps52
    go_wp2
    go_ret3
    exact ⟨rfl, Drawn0.refl _⟩
  · have c1 := decide_eq_false h1
    have c2 := decide_eq_false h2
    have c3 := decide_eq_false h3
    have c4 := decide_eq_true h4
    clear h1 h2 h3 h4
    go_enter Tryd.func52, Tryd.ntmps52
    go_wp2
    go_ret3
    exact ⟨rfl, Drawn0.refl _⟩
theorem started_ok (n d : Nat) (hn : 1 ≤ n) (hn5 : n ≤ 5) (hd : d ≤ n) (W : World) (hT : TabG W) : Calls Tryd.prog 52 #[.int .i64 (n : Int), .int .i64 (d : Int)] W fun e w' =>
    ∃ g Be Bs, e = .returned (.tuple #[.pointer (some ⟨g, 0, none⟩), .int .u64 (allN d (2 ^ n) : Int), .int .i64 0]) ∧ GameAt n g Be Bs 0 w' ∧ Below W.heap.size W w' ∧ W.heap.size ≤ Be ∧ W.heap.size ≤ Bs := by
  have HT := Aside0.mk hT
  have hp := pow5 hn5
  have HP := Aside0.mk hp
  have Hw := Aside0.mk (show wrap64 ((2 : Int) ^ n) = ((2 ^ n : Nat) : Int) by
    rw [show ((2 : Int) ^ n) = ((2 ^ n : Nat) : Int) by simp, w64n _ (by omega)])
  have h1 : ¬ (n : Int) < 1 := by omega
  have h2 : ¬ (5 : Int) < (n : Int) := by omega
  have h3 : ¬ (d : Int) < 0 := by omega
  have h4 : ¬ (n : Int) < (d : Int) := by omega
  have c1 := decide_eq_false h1
  have c2 := decide_eq_false h2
  have c3 := decide_eq_false h3
  have c4 := decide_eq_false h4
  have c4b : decide (n < d) = false := decide_eq_false (by omega)
  have h0 : (0 : Int) ≤ (n : Int) := by omega
  have h5 : (n : Int) ≤ 5 := by omega
  have HB1 := Aside0.mk (Nat.one_le_two_pow (n := n))
  clear h1 h2 h3 h4 hT hp hn hn5 hd
  have hmm := @run_makeMap Tryd.prog
  go_enter Tryd.func52, Tryd.ntmps52
  go_wp2
  go_loopw [7, 26] (fun v7 v26 w' => ∃ i : Nat, v7 = .int .u64 (allN d i : Int) ∧ v26 = .int .i64 (i : Int) ∧ Aside0 (i ≤ 2 ^ n) ∧ Drawn0 W w') (fun _ v _ => 2 ^ n - (intOf v).toNat)
  case atStart => exact ⟨0, rfl, rfl, ⟨Nat.zero_le _⟩, Drawn0.refl W⟩
  case round =>
    obtain ⟨i, rfl, rfl, Hi, ⟨nd, rfl⟩⟩ := hrel
    have Hwi := Aside0.mk (show wrap64 ((i : Int) + 1) = ((i + 1 : Nat) : Int) from wrap1 (by have := Hi.out; have := HP.out; omega))
    have Hal := Aside0.mk (allN_lt d i (by have := Hi.out; have := HP.out; omega))
    have Has := Aside0.mk (allN_succ d i)
    have h0i : (0 : Int) ≤ (i : Int) := by omega
    have hi32 : (i : Int) ≤ 32 := by have := Hi.out; have := HP.out; omega
    by_cases ci : i < 2 ^ n
    · have c5 : decide ((i : Int) < wrap64 ((2 : Int) ^ n)) = true := by rw [Hw.out]; exact decide_eq_true (by omega)
      have Hci := Aside0.mk ci
      have HOn := Aside0.mk (fun w => ones_calls i (by omega) w)
      clear ci
      by_cases co : Lib.onesCount i ≤ d
      · have c6 : decide ((Lib.onesCount i : Int) ≤ (d : Int)) = true := decide_eq_true (by omega)
        have c6b : decide (Lib.onesCount i ≤ d) = true := decide_eq_true co
        rw [if_pos co] at Has
        clear co
        go_wp2_with (first | (go_at_call 80; (with_reducible refine (HOn.out _).mono ?_); rintro e w' ⟨rfl, ⟨nd2, rfl⟩⟩) | (go_at_call 81; (with_reducible refine (with_calls (allN d i) i Hal.out (by have := hi32; omega) _).mono ?_); rintro e w' ⟨rfl, ⟨nd3, rfl⟩⟩))
        go_roundw
        case rel => exact ⟨i + 1, by rw [Has.out], by first | rw [Hwi.out] | go_num, ⟨Hci.out⟩, ⟨⟨_, rfl⟩⟩⟩
        case measure => (try rw [Hwi.out]); have := Hci.out; simp [intOf]; omega
      · have c6 : decide ((Lib.onesCount i : Int) ≤ (d : Int)) = false := decide_eq_false (by omega)
        have c6b : decide (Lib.onesCount i ≤ d) = false := decide_eq_false co
        rw [if_neg co, Nat.or_zero] at Has
        clear co
        go_wp2_with (first | (go_at_call 80; (with_reducible refine (HOn.out _).mono ?_); rintro e w' ⟨rfl, ⟨nd2, rfl⟩⟩) | (go_at_call 81; (with_reducible refine (with_calls (allN d i) i Hal.out (by have := hi32; omega) _).mono ?_); rintro e w' ⟨rfl, ⟨nd3, rfl⟩⟩))
        go_roundw
        case rel => exact ⟨i + 1, by rw [Has.out], by first | rw [Hwi.out] | go_num, ⟨Hci.out⟩, ⟨⟨_, rfl⟩⟩⟩
        case measure => (try rw [Hwi.out]); have := Hci.out; simp [intOf]; omega
    · have c5 : decide ((i : Int) < wrap64 ((2 : Int) ^ n)) = false := by rw [Hw.out]; exact decide_eq_false (by omega)
      have he := Aside0.mk (show i = 2 ^ n by have := Hi.out; omega)
      clear ci hi32 Hi
      go_wp2
      go_ret3
      have hb1 : Below W.heap.size W ((W.drewN nd).alloc (Obj.map #[] 0)) := below_alloc (pw_below_drewN (Below.refl _ _) nd) _
      have hm1 := World.ownsMap_made (W.drewN nd) Tryd.prog 77 (plainElem (H := Unit) Tryd.prog 3)
      have hm2 := World.ownsMap_made ((W.drewN nd).alloc (Obj.map #[] 0)) Tryd.prog 77 (plainElem (H := Unit) Tryd.prog 3)
      have hz : ((W.drewN nd).alloc (Obj.map #[] 0)).heap.size = W.heap.size + 1 := Array.size_push ..
      refine ⟨W.heap.size + 1 + 1, W.heap.size, W.heap.size + 1, by rw [he.out]; rfl, ?_, below_alloc (below_alloc hb1 _) _, Nat.le_refl _, Nat.le_succ _⟩
      refine ⟨HT.out.below (below_alloc (below_alloc hb1 _) _), ?_, ⟨0, _, Nat.le_refl _, (hm1.alloc _).alloc _, MemD.empty _⟩, ⟨0, _, Nat.le_refl _, ?_, MemD.empty _⟩, by omega⟩
      · have := heap_alloc_new (((W.drewN nd).alloc (Obj.map #[] 0)).alloc (Obj.map #[] 0)) (Obj.cells #[Value.int IntKind.i64 (n : Int), Value.map (some W.heap.size), Value.map (some (W.heap.size + 1))] 104)
        have hz2 : (((W.drewN nd).alloc (Obj.map #[] 0)).alloc (Obj.map #[] 0)).heap.size = W.heap.size + 1 + 1 := by rw [← hz]; exact Array.size_push ..
        rw [hz2] at this
        exact this
      · rw [hz] at hm2
        exact hm2.alloc _
theorem gameOk_iff {n d : Int} (h : gameOk n d = true) : ∃ n' d' : Nat, n = (n' : Int) ∧ d = (d' : Int) ∧ 1 ≤ n' ∧ n' ≤ 5 ∧ d' ≤ n' := by
  unfold gameOk at h
  have := of_decide_eq_true h
  obtain ⟨n', rfl⟩ := Int.eq_ofNat_of_zero_le (show 0 ≤ n by omega)
  obtain ⟨d', rfl⟩ := Int.eq_ofNat_of_zero_le (show 0 ≤ d by omega)
  exact ⟨n', d', rfl, rfl, by omega, by omega, by omega⟩
/-- Six tests are enough. -/
theorem can6 : ∀ n, n ≤ 5 → 1 ≤ n → ∀ d, d ≤ n → canL n 6 (setsL n d) = true := by
  decide +kernel
def fewestP (n d : Int) : Int × Int := if gameOk n d = true then ((fewL n.toNat 6 (setsL n.toNat d.toNat) : Int), 0) else (0, 2)
def strategyP (n d : Int) : List Int × Int := if gameOk n d = true then ((planL n.toNat 6 32 (setsL n.toNat d.toNat)).map fun (t : Nat) => (t : Int), 0) else ([], 2)
theorem setsL_length (n d : Nat) (hn : n ≤ 5) : (setsL n d).length ≤ 32 := by
  have h1 := List.length_filter_le (fun s => decide (Lib.onesCount s ≤ d)) (List.range (2 ^ n))
  have h2 := pow5 hn
  rw [List.length_range] at h1
  exact Nat.le_trans h1 h2
def find_Fewest.f (a0 a1 : Int) : Option (Int × Int) := some (fewestP a0 a1)
theorem find_Fewest.calls (a0 a1 : Int) (r1 r2 : Int) (w : World) (hT : TabG w) (h : find_Fewest.f a0 a1 = some (r1, r2)) :
    Calls Tryd.prog 22 #[.int .i64 a0, .int .i64 a1] w fun e w' => e = .returned (.tuple #[.int .i64 r1, .int .i64 r2]) ∧ Below w.heap.size w w' := by
  have hp : fewestP a0 a1 = (r1, r2) := by injection h
  have HP := Aside0.mk hp
  clear h hp
  cases hg : gameOk a0 a1 with
  | false =>
    have HS := Aside0.mk (started_no a0 a1 hg w)
    have hr := HP.out
    unfold fewestP at hr
    rw [hg, if_neg (by decide)] at hr
    injection hr with e1 e2
    subst e1 e2
    clear hg hT HP
    go_enter Tryd.func22, Tryd.ntmps22
    go_wp2_with (first | (go_at_call 52; (with_reducible refine (HS.out).mono ?_); rintro e w' ⟨rfl, ⟨nd, rfl⟩⟩))
    go_ret2
    exact ⟨rfl, pw_below_drewN (Below.refl _ _) _⟩
  | true =>
    obtain ⟨n, d, rfl, rfl, h1, h5, hd⟩ := gameOk_iff hg
    have hr := HP.out
    unfold fewestP at hr
    rw [hg, if_pos rfl, Int.toNat_natCast, Int.toNat_natCast] at hr
    injection hr with e1 e2
    subst e1 e2
    have HS := Aside0.mk (started_ok n d h1 h5 hd w hT)
    have hb := bitsL_all n d h5
    have hc := can6 n h5 h1 d hd
    rw [← hb] at hc ⊢
    have hlt := allN_lt d (2 ^ n) (by have := pow5 h5; omega)
    have HF := Aside0.mk (fun g Be Bs W hB hG => fewest_says n g Be Bs w.heap.size 6 h5 (Nat.le_refl _) hB (allN d (2 ^ n)) 0 W hlt (by have := cntT6; omega) hG hc)
    clear hg hT HP hb hc hlt h1 h5 hd
    go_enter Tryd.func22, Tryd.ntmps22
    go_wp2_with (first | (go_at_call 52; (with_reducible refine (HS.out).mono ?_); rintro e w1 ⟨g, Be, Bs, rfl, hG, hb, hB1, hB2⟩; have HG := Aside0.mk hG; have HB := Aside0.mk hb; have HB12 := Aside0.mk (And.intro hB1 hB2); clear hG hb hB1 hB2) | (go_at_call 53; (with_reducible refine (HF.out g Be Bs _ HB12.out HG.out).mono ?_); rintro e w2 ⟨rfl, _, _, hb2⟩; have HB2 := Aside0.mk (HB.out.trans hb2); clear hb2))
    go_ret2
    exact ⟨rfl, HB2.out⟩
theorem OwnI.R {B : Nat} {w : World} {v : Value} {l : List Int} (h : OwnI B w v l) : (Kd.int .i64).R 3 w B (fun _ => True) v l :=
  R_int_mk0 (fun _ _ => trivial) h
theorem TabG.pos {w : World} (h : TabG w) : 0 < w.heap.size := by
  obtain ⟨c, e, f, hb⟩ := h.block
  have := blk_lt hb
  omega
def find_Strategy.f (a0 a1 : Int) : Option (List Int × Int) := some (strategyP a0 a1)
theorem find_Strategy.calls (a0 a1 : Int) (r1 : List Int) (r2 : Int) (w : World) (hT : TabG w) (h : find_Strategy.f a0 a1 = some (r1, r2)) :
    Calls Tryd.prog 29 #[.int .i64 a0, .int .i64 a1] w fun e w' => ∃ v0_ : Value, e = .returned (.tuple #[v0_, .int .i64 r2]) ∧ Kd.R (Kd.int .i64) 3 w' w.heap.size (fun _ => True) v0_ r1 ∧ Below w.heap.size w w' := by
  have hp : strategyP a0 a1 = (r1, r2) := by injection h
  have HP := Aside0.mk hp
  clear h hp
  cases hg : gameOk a0 a1 with
  | false =>
    have HS := Aside0.mk (started_no a0 a1 hg w)
    have hr := HP.out
    unfold strategyP at hr
    rw [hg, if_neg (by decide)] at hr
    injection hr with e1 e2
    subst e1 e2
    clear hg hT HP
    go_enter Tryd.func29, Tryd.ntmps29
    go_wp2_with (first | (go_at_call 52; (with_reducible refine (HS.out).mono ?_); rintro e w' ⟨rfl, ⟨nd, rfl⟩⟩))
    go_ret2
    exact ⟨_, rfl, Kd.R_nil _ _ _ _ _, pw_below_drewN (Below.refl _ _) _⟩
  | true =>
    obtain ⟨n, d, rfl, rfl, h1, h5, hd⟩ := gameOk_iff hg
    have hr := HP.out
    unfold strategyP at hr
    rw [hg, if_pos rfl, Int.toNat_natCast, Int.toNat_natCast] at hr
    injection hr with e1 e2
    subst e1 e2
    have HS := Aside0.mk (started_ok n d h1 h5 hd w hT)
    have hb := bitsL_all n d h5
    have hc := can6 n h5 h1 d hd
    have hsl := setsL_length n d h5
    rw [← hb] at hc hsl ⊢
    have hlt := allN_lt d (2 ^ n) (by have := pow5 h5; omega)
    have HF := Aside0.mk (fun g Be Bs W hB hG hBW => plan_says n g Be Bs w.heap.size 6 h5 (Nat.le_refl _) hB hT.pos 32 (allN d (2 ^ n)) 0 W (.slice none 0 0) [] hlt hsl hc (by
      have h6 := cntT6
      have h7 : ((bitsL (allN d (2 ^ n))).length - 1) * (8 * cntT 6) ≤ 32 * (8 * cntT 6) := Nat.mul_le_mul_right _ (by omega)
      omega) (by simp; omega) hG hBW ⟨rfl, .inl ⟨rfl, rfl⟩⟩)
    clear hg hT HP hb hc hlt h1 h5 hd hsl
    go_enter Tryd.func29, Tryd.ntmps29
    go_wp2_with (first | (go_at_call 52; (with_reducible refine (HS.out).mono ?_); rintro e w1 ⟨g, Be, Bs, rfl, hG, hb, hB1, hB2⟩; have HG := Aside0.mk hG; have HB := Aside0.mk hb; have HB12 := Aside0.mk (And.intro hB1 hB2); clear hG hb hB1 hB2) | (go_at_call 57; (with_reducible refine (HF.out g Be Bs _ HB12.out HG.out HB.out.size).mono ?_); rintro e w2 ⟨v2, rfl, _, ho2, hb2⟩; have HO2 := Aside0.mk ho2; have HB2 := Aside0.mk (HB.out.trans hb2); clear hb2 ho2))
    go_ret2
    exact ⟨_, rfl, HO2.out.R, HB2.out⟩
end Go.Proofs.YtglajokjiphafaaDoor.P

namespace Go.Proofs.YtglajokjiphafaaDoor.P
open Go.RowKit Go.Proofs.YtglajokjiphafaaDoorW.PrintWords Go.Proofs.YtglajokjiphafaaDoorW.PrintLast Go.Proofs.YtglajokjiphafaaDoorW.PrintMore
attribute [local go_sem] max2_int min2_int max_two min_two max_three min_three max_four min_four   -- for this text's walks alone
set_option linter.unusedVariables false
set_option linter.unusedSimpArgs false

/-! ### neonwrightlaw05_same: function 20 -/
def neonwrightlaw05_same.l0 : Nat → List Int → List Int → Int → Option (Bool)
  | 0, _, _, _ => none
  | k + 1, x0, x1, x5 => if x5 < (x0.length : Int) then (if 0 ≤ x5 then (if x5 < (x1.length : Int) then (if (rd x0 x5) = (rd x1 x5) then (neonwrightlaw05_same.l0 k x0 x1 (wrap64 (x5 + 1))) else (some false)) else (none)) else (none)) else (some true)
def neonwrightlaw05_same.f (k : Nat) (l0 : List Int) (l1 : List Int) : Option (Bool) := if (l0.length : Int) = (l1.length : Int) then (neonwrightlaw05_same.l0 k l0 l1 0) else (some false)
theorem neonwrightlaw05_same.mono_l : ∀ k, (∀ y0 y1 y2, LeO (neonwrightlaw05_same.l0 k y0 y1 y2) (neonwrightlaw05_same.l0 (k + 1) y0 y1 y2))
  | 0 => fun _ _ _ r h => by simp [neonwrightlaw05_same.l0] at h
  | k + 1 => by
    have ih0 := neonwrightlaw05_same.mono_l k
    · intro y0 y1 y2
      unfold neonwrightlaw05_same.l0
      repeat' first
      | (with_reducible exact ih0 _ _ _)
      | (with_reducible exact LeO.refl _)
      | (with_reducible exact LeO.none _)
      | (with_reducible refine LeO.ite ?_ ?_)
      | (with_reducible refine LeO.bind ?_ (fun _ => ?_))
      | exact ih0 _ _ _
      | exact LeO.none _
      | refine LeO.ite ?_ ?_
      | refine LeO.bind ?_ (fun _ => ?_)
theorem neonwrightlaw05_same.mono : ∀ a0 a1 k, LeO (neonwrightlaw05_same.f k a0 a1) (neonwrightlaw05_same.f (k + 1) a0 a1) := by
  intro a0 a1 k
  have ih0 := neonwrightlaw05_same.mono_l k
  unfold neonwrightlaw05_same.f
  repeat' first
      | (with_reducible exact ih0 _ _ _)
      | (with_reducible exact LeO.refl _)
      | (with_reducible exact LeO.none _)
      | (with_reducible refine LeO.ite ?_ ?_)
      | (with_reducible refine LeO.bind ?_ (fun _ => ?_))
      | exact ih0 _ _ _
      | exact LeO.none _
      | refine LeO.ite ?_ ?_
      | refine LeO.bind ?_ (fun _ => ?_)
set_option maxHeartbeats 8000000 in
set_option maxRecDepth 100000 in
theorem neonwrightlaw05_same.calls (k : Nat) (A0 : Option Addr) (c0 : Nat) (l0 : List Int) (A1 : Option Addr) (c1 : Nat) (l1 : List Int) (r : Bool) (w : World) (hr0 : Kd.C (Kd.int .i64) w A0 l0.length l0) (hc0 : l0.length ≤ c0) (hr1 : Kd.C (Kd.int .i64) w A1 l1.length l1) (hc1 : l1.length ≤ c1) (h : neonwrightlaw05_same.f k l0 l1 = some r) :
    Calls Tryd.prog 20 #[.slice A0 l0.length c0, .slice A1 l1.length c1] w fun e w' => e = .returned (.bool r) ∧ Drawn0 w w' := by
  have HR0 := Aside0.mk hr0
  have HC0 := Aside0.mk hc0
  clear hr0 hc0
  have HR1 := Aside0.mk hr1
  have HC1 := Aside0.mk hc1
  clear hr1 hc1
  have H : (if (l0.length : Int) = (l1.length : Int) then (neonwrightlaw05_same.l0 k l0 l1 0) else (some false)) = some r := h
  clear h
  by_cases c3 : (l0.length : Int) = (l1.length : Int)
  · rw [if_pos c3] at H
    have c3b0 : ((l0.length : Int) == (l1.length : Int)) = true := beq_iff_eq.mpr c3
    have c3b1 : ((l0.length : Int) != (l1.length : Int)) = false := bne_eq_false_iff_eq.mpr c3
    have c3b2 : (l0.length == l1.length) = true := by first | simpa using c3 | (simp at c3 ⊢; omega)
    clear c3
    have H' := Aside0.mk H
    clear H
    go_enter Tryd.func20, Tryd.ntmps20
    go_wp2
    repeat (go_quiet (fail); try go_wp2)
    go_loopg [5] k (fun kq v5 w' => ∃ (x5_1 : Int), v5 = .int .i64 x5_1 ∧ Aside0 (neonwrightlaw05_same.l0 kq l0 l1 x5_1 = some r) ∧ Aside0 (kq ≤ k) ∧ Drawn0 w w')
    case atStart => exact ⟨(0), (by first | rfl | (simp; done) | (simp [*]; done)), H', ⟨Nat.le_refl _⟩, by repeat (first | exact Drawn0.refl _ | apply Drawn0.step)⟩
    case round =>
      clear H'
      try clear c1
      try clear c2
      try clear p2
      try clear c3
      try clear c3b0
      try clear c3b1
      try clear c3b2
      obtain ⟨x5_1, rfl, HA, HK1, ⟨m1, rfl⟩⟩ := hrel
      cases gk with
      | zero => exact absurd HA.out (by simp [neonwrightlaw05_same.l0])
      | succ k1 =>
        have H := HA.out
        clear HA
        simp only [neonwrightlaw05_same.l0] at H
        by_cases c4 : x5_1 < (l0.length : Int)
        · rw [if_pos c4] at H
          have c4b0 : decide (x5_1 < (l0.length : Int)) = true := decide_eq_true c4
          clear c4
          by_cases c5 : 0 ≤ x5_1
          · rw [if_pos c5] at H
            have c5b0 : decide (0 ≤ x5_1) = true := decide_eq_true c5
            clear c5
            by_cases c6 : x5_1 < (l1.length : Int)
            · rw [if_pos c6] at H
              have c6b0 : decide (x5_1 < (l1.length : Int)) = true := decide_eq_true c6
              clear c6
              by_cases c7 : (rd l0 x5_1) = (rd l1 x5_1)
              · rw [if_pos c7] at H
                have c7b0 : ((rd l0 x5_1) == (rd l1 x5_1)) = true := beq_iff_eq.mpr c7
                have c7b1 : ((rd l0 x5_1) != (rd l1 x5_1)) = false := bne_eq_false_iff_eq.mpr c7
                clear c7
                have H' := Aside0.mk H
                clear H
                have p159 : 0 ≤ (x5_1 : Int) := of_decide_eq_true (by first | (with_reducible assumption) | assumption)
                have q159 : x5_1 < (l0.length : Int) := of_decide_eq_true (by first | (with_reducible assumption) | assumption)
                obtain ⟨ad159, e159, hx159_0⟩ := Kd.at_int HR0.out x5_1 p159 q159
                cases e159
                replace p159 := eq_true p159
                replace q159 := eq_true q159
                have p160 : 0 ≤ (x5_1 : Int) := of_decide_eq_true (by first | (with_reducible assumption) | assumption)
                have q160 : x5_1 < (l1.length : Int) := of_decide_eq_true (by first | (with_reducible assumption) | assumption)
                obtain ⟨ad160, e160, hx160_0⟩ := Kd.at_int HR1.out x5_1 p160 q160
                cases e160
                replace p160 := eq_true p160
                replace q160 := eq_true q160
                go_wp2
                repeat (go_quiet (fail); try go_wp2)
                go_roundg k1
                case measure => have := HK1.out; omega
                case rel => exact ⟨(wrap64 (x5_1 + 1)), (by first | rfl | (simp; done) | (simp [*]; done)), H', ⟨by have := HK1.out; omega⟩, by repeat (first | exact Drawn0.refl _ | apply Drawn0.step)⟩
              · rw [if_neg c7] at H
                have c7b0 : ((rd l0 x5_1) == (rd l1 x5_1)) = false := beq_eq_false_iff_ne.mpr c7
                have c7b1 : ((rd l0 x5_1) != (rd l1 x5_1)) = true := bne_iff_ne.mpr c7
                obtain rfl := Option.some.inj H
                have p159 : 0 ≤ (x5_1 : Int) := of_decide_eq_true (by first | (with_reducible assumption) | assumption)
                have q159 : x5_1 < (l0.length : Int) := of_decide_eq_true (by first | (with_reducible assumption) | assumption)
                obtain ⟨ad159, e159, hx159_0⟩ := Kd.at_int HR0.out x5_1 p159 q159
                cases e159
                replace p159 := eq_true p159
                replace q159 := eq_true q159
                have p160 : 0 ≤ (x5_1 : Int) := of_decide_eq_true (by first | (with_reducible assumption) | assumption)
                have q160 : x5_1 < (l1.length : Int) := of_decide_eq_true (by first | (with_reducible assumption) | assumption)
                obtain ⟨ad160, e160, hx160_0⟩ := Kd.at_int HR1.out x5_1 p160 q160
                cases e160
                replace p160 := eq_true p160
                replace q160 := eq_true q160
                go_wp2
                repeat (go_quiet (fail); try go_wp2)
                go_ret
                exact ⟨by first | rfl | (simp; done) | (simp [*]; done), by repeat (first | exact Drawn0.refl _ | apply Drawn0.step)⟩
            · rw [if_neg c6] at H
              exact absurd H (by simp)
          · rw [if_neg c5] at H
            exact absurd H (by simp)
        · rw [if_neg c4] at H
          have c4b0 : decide (x5_1 < (l0.length : Int)) = false := decide_eq_false c4
          clear c4
          obtain rfl := Option.some.inj H
          go_wp2
          repeat (go_quiet (fail); try go_wp2)
          go_ret
          exact ⟨by first | rfl | (simp; done) | (simp [*]; done), by repeat (first | exact Drawn0.refl _ | apply Drawn0.step)⟩
  · rw [if_neg c3] at H
    have c3b0 : ((l0.length : Int) == (l1.length : Int)) = false := beq_eq_false_iff_ne.mpr c3
    have c3b1 : ((l0.length : Int) != (l1.length : Int)) = true := bne_iff_ne.mpr c3
    have c3b2 : (l0.length == l1.length) = false := by first | simpa using c3 | (simp at c3 ⊢; omega)
    obtain rfl := Option.some.inj H
    go_enter Tryd.func20, Tryd.ntmps20
    go_wp2
    repeat (go_quiet (fail); try go_wp2)
    go_ret
    exact ⟨by first | rfl | (simp; done) | (simp [*]; done), by repeat (first | exact Drawn0.refl _ | apply Drawn0.step)⟩

end Go.Proofs.YtglajokjiphafaaDoor.P

namespace Go.Proofs.YtglajokjiphafaaDoor.P
open Go.RowKit Go.Proofs.YtglajokjiphafaaDoorW.PrintWords Go.Proofs.YtglajokjiphafaaDoorW.PrintLast Go.Proofs.YtglajokjiphafaaDoorW.PrintMore
attribute [local go_sem] max2_int min2_int max_two min_two max_three min_three max_four min_four   -- for this text's walks alone
set_option linter.unusedVariables false
set_option linter.unusedSimpArgs false

/-! ### find_Kautz: function 21 -/
mutual
def find_Kautz.j0 : Nat → Int → Int → Int → Bool → Option ((List (List Int)) × Int)
  | 0, _, _, _, _ => none
  | k + 1, x0, x1, x2, x43 => if x43 = true then (some (([] : List (List Int)), 2)) else (if 0 ≤ (wrap64 (x0 * x2)) then (if (wrap64 (x0 * x2) : Int).toNat ≤ 11728124029610 then ((some (List.replicate (wrap64 (x0 * x2) : Int).toNat [] : List (List Int))).bind fun y173 => (if x1 = 2 then (find_Kautz.j1 k x0 x2 y173 (wrap64 (x0 * x0))) else (find_Kautz.j1 k x0 x2 y173 x0))) else (none)) else (none))
def find_Kautz.j1 : Nat → Int → Int → List (List Int) → Int → Option ((List (List Int)) × Int)
  | 0, _, _, _, _ => none
  | k + 1, x0, x2, x8, x9 => find_Kautz.l0 k x0 x2 x8 x9 0
def find_Kautz.l0 : Nat → Int → Int → List (List Int) → Int → Int → Option ((List (List Int)) × Int)
  | 0, _, _, _, _, _ => none
  | k + 1, x0, x2, x8, x54, x55 => if x55 < x54 then (find_Kautz.l1 k x0 x2 x8 x55 x54 x55 x2 0) else (some (x8, 0))
def find_Kautz.l1 : Nat → Int → Int → List (List Int) → Int → Int → Int → Int → Int → Option ((List (List Int)) × Int)
  | 0, _, _, _, _, _, _, _, _ => none
  | k + 1, x0, x2, x8, x10, x54, x55, x58, x59 => if x59 < x58 then (if x0 = 0 then (none) else (if 0 ≤ (wrap64 ((wrap64 (x59 * x0)) + (Int.tmod (wrap64 ((Int.tmod x10 x0) + (wrap64 ((wrap64 (Int.tdiv x10 x0)) * x59)))) x0))) then (if (wrap64 ((wrap64 (x59 * x0)) + (Int.tmod (wrap64 ((Int.tmod x10 x0) + (wrap64 ((wrap64 (Int.tdiv x10 x0)) * x59)))) x0))) < (x8.length : Int) then (if (rd_L1 x8 (wrap64 ((wrap64 (x59 * x0)) + (Int.tmod (wrap64 ((Int.tmod x10 x0) + (wrap64 ((wrap64 (Int.tdiv x10 x0)) * x59)))) x0)))).length < 17592186044416 then (find_Kautz.l1 k x0 x2 (x8.set ((wrap64 ((wrap64 (x59 * x0)) + (Int.tmod (wrap64 ((Int.tmod x10 x0) + (wrap64 ((wrap64 (Int.tdiv x10 x0)) * x59)))) x0))) : Int).toNat ((rd_L1 x8 (wrap64 ((wrap64 (x59 * x0)) + (Int.tmod (wrap64 ((Int.tmod x10 x0) + (wrap64 ((wrap64 (Int.tdiv x10 x0)) * x59)))) x0)))) ++ [x10])) x10 x54 x55 x58 (wrap64 (x59 + 1))) else (none)) else (none)) else (none))) else (find_Kautz.l0 k x0 x2 x8 x54 (wrap64 (x55 + 1)))
end
def find_Kautz.f (k : Nat) (a0 : Int) (a1 : Int) (a2 : Int) : Option ((List (List Int)) × Int) := if a0 = 2 then (if a1 < 1 then (find_Kautz.j0 k a0 a1 a2 true) else (if a1 > 2 then (find_Kautz.j0 k a0 a1 a2 true) else (if a2 < 1 then (find_Kautz.j0 k a0 a1 a2 true) else (find_Kautz.j0 k a0 a1 a2 (decide (a2 > a0)))))) else (if a0 = 3 then (if a1 < 1 then (find_Kautz.j0 k a0 a1 a2 true) else (if a1 > 2 then (find_Kautz.j0 k a0 a1 a2 true) else (if a2 < 1 then (find_Kautz.j0 k a0 a1 a2 true) else (find_Kautz.j0 k a0 a1 a2 (decide (a2 > a0)))))) else (if a0 = 5 then (if a1 < 1 then (find_Kautz.j0 k a0 a1 a2 true) else (if a1 > 2 then (find_Kautz.j0 k a0 a1 a2 true) else (if a2 < 1 then (find_Kautz.j0 k a0 a1 a2 true) else (find_Kautz.j0 k a0 a1 a2 (decide (a2 > a0)))))) else (if a0 = 7 then (if a1 < 1 then (find_Kautz.j0 k a0 a1 a2 true) else (if a1 > 2 then (find_Kautz.j0 k a0 a1 a2 true) else (if a2 < 1 then (find_Kautz.j0 k a0 a1 a2 true) else (find_Kautz.j0 k a0 a1 a2 (decide (a2 > a0)))))) else (find_Kautz.j0 k a0 a1 a2 true))))
theorem find_Kautz.mono_l : ∀ k, (∀ y0 y1 y2 y3, LeO (find_Kautz.j0 k y0 y1 y2 y3) (find_Kautz.j0 (k + 1) y0 y1 y2 y3)) ∧ (∀ y0 y1 y2 y3, LeO (find_Kautz.j1 k y0 y1 y2 y3) (find_Kautz.j1 (k + 1) y0 y1 y2 y3)) ∧ (∀ y0 y1 y2 y3 y4, LeO (find_Kautz.l0 k y0 y1 y2 y3 y4) (find_Kautz.l0 (k + 1) y0 y1 y2 y3 y4)) ∧ (∀ y0 y1 y2 y3 y4 y5 y6 y7, LeO (find_Kautz.l1 k y0 y1 y2 y3 y4 y5 y6 y7) (find_Kautz.l1 (k + 1) y0 y1 y2 y3 y4 y5 y6 y7))
  | 0 => ⟨fun _ _ _ _ r h => by simp [find_Kautz.j0] at h, fun _ _ _ _ r h => by simp [find_Kautz.j1] at h, fun _ _ _ _ _ r h => by simp [find_Kautz.l0] at h, fun _ _ _ _ _ _ _ _ r h => by simp [find_Kautz.l1] at h⟩
  | k + 1 => by
    obtain ⟨ih0, ih1, ih2, ih3⟩ := find_Kautz.mono_l k
    refine ⟨?_, ?_, ?_, ?_⟩
    · intro y0 y1 y2 y3
      unfold find_Kautz.j0
      repeat' first
      | (with_reducible exact ih0 _ _ _ _)
      | (with_reducible exact ih1 _ _ _ _)
      | (with_reducible exact ih2 _ _ _ _ _)
      | (with_reducible exact ih3 _ _ _ _ _ _ _ _)
      | (with_reducible exact LeO.refl _)
      | (with_reducible exact LeO.none _)
      | (with_reducible refine LeO.ite ?_ ?_)
      | (with_reducible refine LeO.bind ?_ (fun _ => ?_))
      | exact ih0 _ _ _ _
      | exact ih1 _ _ _ _
      | exact ih2 _ _ _ _ _
      | exact ih3 _ _ _ _ _ _ _ _
      | exact LeO.none _
      | refine LeO.ite ?_ ?_
      | refine LeO.bind ?_ (fun _ => ?_)
    · intro y0 y1 y2 y3
      unfold find_Kautz.j1
      repeat' first
      | (with_reducible exact ih0 _ _ _ _)
      | (with_reducible exact ih1 _ _ _ _)
      | (with_reducible exact ih2 _ _ _ _ _)
      | (with_reducible exact ih3 _ _ _ _ _ _ _ _)
      | (with_reducible exact LeO.refl _)
      | (with_reducible exact LeO.none _)
      | (with_reducible refine LeO.ite ?_ ?_)
      | (with_reducible refine LeO.bind ?_ (fun _ => ?_))
      | exact ih0 _ _ _ _
      | exact ih1 _ _ _ _
      | exact ih2 _ _ _ _ _
      | exact ih3 _ _ _ _ _ _ _ _
      | exact LeO.none _
      | refine LeO.ite ?_ ?_
      | refine LeO.bind ?_ (fun _ => ?_)
    · intro y0 y1 y2 y3 y4
      unfold find_Kautz.l0
      repeat' first
      | (with_reducible exact ih0 _ _ _ _)
      | (with_reducible exact ih1 _ _ _ _)
      | (with_reducible exact ih2 _ _ _ _ _)
      | (with_reducible exact ih3 _ _ _ _ _ _ _ _)
      | (with_reducible exact LeO.refl _)
      | (with_reducible exact LeO.none _)
      | (with_reducible refine LeO.ite ?_ ?_)
      | (with_reducible refine LeO.bind ?_ (fun _ => ?_))
      | exact ih0 _ _ _ _
      | exact ih1 _ _ _ _
      | exact ih2 _ _ _ _ _
      | exact ih3 _ _ _ _ _ _ _ _
      | exact LeO.none _
      | refine LeO.ite ?_ ?_
      | refine LeO.bind ?_ (fun _ => ?_)
    · intro y0 y1 y2 y3 y4 y5 y6 y7
      unfold find_Kautz.l1
      repeat' first
      | (with_reducible exact ih0 _ _ _ _)
      | (with_reducible exact ih1 _ _ _ _)
      | (with_reducible exact ih2 _ _ _ _ _)
      | (with_reducible exact ih3 _ _ _ _ _ _ _ _)
      | (with_reducible exact LeO.refl _)
      | (with_reducible exact LeO.none _)
      | (with_reducible refine LeO.ite ?_ ?_)
      | (with_reducible refine LeO.bind ?_ (fun _ => ?_))
      | exact ih0 _ _ _ _
      | exact ih1 _ _ _ _
      | exact ih2 _ _ _ _ _
      | exact ih3 _ _ _ _ _ _ _ _
      | exact LeO.none _
      | refine LeO.ite ?_ ?_
      | refine LeO.bind ?_ (fun _ => ?_)
theorem find_Kautz.mono : ∀ a0 a1 a2 k, LeO (find_Kautz.f k a0 a1 a2) (find_Kautz.f (k + 1) a0 a1 a2) := by
  intro a0 a1 a2 k
  obtain ⟨ih0, ih1, ih2, ih3⟩ := find_Kautz.mono_l k
  unfold find_Kautz.f
  repeat' first
      | (with_reducible exact ih0 _ _ _ _)
      | (with_reducible exact ih1 _ _ _ _)
      | (with_reducible exact ih2 _ _ _ _ _)
      | (with_reducible exact ih3 _ _ _ _ _ _ _ _)
      | (with_reducible exact LeO.refl _)
      | (with_reducible exact LeO.none _)
      | (with_reducible refine LeO.ite ?_ ?_)
      | (with_reducible refine LeO.bind ?_ (fun _ => ?_))
      | exact ih0 _ _ _ _
      | exact ih1 _ _ _ _
      | exact ih2 _ _ _ _ _
      | exact ih3 _ _ _ _ _ _ _ _
      | exact LeO.none _
      | refine LeO.ite ?_ ?_
      | refine LeO.bind ?_ (fun _ => ?_)
set_option maxHeartbeats 8000000 in
set_option maxRecDepth 100000 in
theorem find_Kautz.calls (k : Nat) (a0 : Int) (a1 : Int) (a2 : Int) (r1 : List (List Int)) (r2 : Int) (w : World) (h : find_Kautz.f k a0 a1 a2 = some (r1, r2)) :
    Calls Tryd.prog 21 #[.int .i64 a0, .int .i64 a1, .int .i64 a2] w fun e w' => ∃ v0_ : Value, e = .returned (.tuple #[v0_, .int .i64 r2]) ∧ Kd.S (Kd.slice 3 (Kd.int .i64)) 25 w' w.heap.size (fun _ => True) v0_ r1 ∧ Below w.heap.size w w' := by
  have HB := Aside0.mk (Below.refl w.heap.size w)
  have H : (if a0 = 2 then (if a1 < 1 then (find_Kautz.j0 k a0 a1 a2 true) else (if a1 > 2 then (find_Kautz.j0 k a0 a1 a2 true) else (if a2 < 1 then (find_Kautz.j0 k a0 a1 a2 true) else (find_Kautz.j0 k a0 a1 a2 (decide (a2 > a0)))))) else (if a0 = 3 then (if a1 < 1 then (find_Kautz.j0 k a0 a1 a2 true) else (if a1 > 2 then (find_Kautz.j0 k a0 a1 a2 true) else (if a2 < 1 then (find_Kautz.j0 k a0 a1 a2 true) else (find_Kautz.j0 k a0 a1 a2 (decide (a2 > a0)))))) else (if a0 = 5 then (if a1 < 1 then (find_Kautz.j0 k a0 a1 a2 true) else (if a1 > 2 then (find_Kautz.j0 k a0 a1 a2 true) else (if a2 < 1 then (find_Kautz.j0 k a0 a1 a2 true) else (find_Kautz.j0 k a0 a1 a2 (decide (a2 > a0)))))) else (if a0 = 7 then (if a1 < 1 then (find_Kautz.j0 k a0 a1 a2 true) else (if a1 > 2 then (find_Kautz.j0 k a0 a1 a2 true) else (if a2 < 1 then (find_Kautz.j0 k a0 a1 a2 true) else (find_Kautz.j0 k a0 a1 a2 (decide (a2 > a0)))))) else (find_Kautz.j0 k a0 a1 a2 true))))) = some (r1, r2) := h
  clear h
  have HC4 := Aside0.mk H
  clear H
  go_enter Tryd.func21, Tryd.ntmps21
  go_upto_region 1 with (fail)
  repeat (go_quiet (fail); go_upto_region 1 with (fail))
  go_cut [43] (fun v43 wc => ∃ (kq : Nat) (x43_3 : Bool), v43 = .bool x43_3 ∧ Aside0 (find_Kautz.j0 kq a0 a1 a2 x43_3 = some (r1, r2)) ∧ Aside0 (kq ≤ k) ∧ Aside0 (Below w.heap.size w wc))
  case first =>
    have H := HC4.out
    clear HC4
    by_cases c5 : a0 = 2
    · rw [if_pos c5] at H
      have c5b0 : (a0 == 2) = true := beq_iff_eq.mpr c5
      have c5b1 : (a0 != 2) = false := bne_eq_false_iff_eq.mpr c5
      clear c5
      (first | rw [c5b0] | (simp only [i64_w, i32_w]; rw [c5b0]) | skip)
      by_cases c6 : a1 < 1
      · rw [if_pos c6] at H
        have c6b0 : decide (a1 < 1) = true := decide_eq_true c6
        clear c6
        have H' := Aside0.mk H
        clear H
        go_wp2
        repeat (go_quiet (fail); try go_wp2)
        go_meet
        case rel => exact ⟨_, (true), (by first | rfl | (simp; done) | (simp [*]; done)), H', ⟨by first | omega | exact Nat.le_refl _⟩, ⟨by repeat (first | (with_reducible first | exact HB.out | apply below_alloc | apply pw_below_drewN | apply below_drew1) | exact HB.out)⟩⟩
      · rw [if_neg c6] at H
        have c6b0 : decide (a1 < 1) = false := decide_eq_false c6
        clear c6
        by_cases c7 : a1 > 2
        · rw [if_pos c7] at H
          have c7b0 : decide (2 < a1) = true := decide_eq_true c7
          clear c7
          have H' := Aside0.mk H
          clear H
          go_wp2
          repeat (go_quiet (fail); try go_wp2)
          go_meet
          case rel => exact ⟨_, (true), (by first | rfl | (simp; done) | (simp [*]; done)), H', ⟨by first | omega | exact Nat.le_refl _⟩, ⟨by repeat (first | (with_reducible first | exact HB.out | apply below_alloc | apply pw_below_drewN | apply below_drew1) | exact HB.out)⟩⟩
        · rw [if_neg c7] at H
          have c7b0 : decide (2 < a1) = false := decide_eq_false c7
          clear c7
          by_cases c8 : a2 < 1
          · rw [if_pos c8] at H
            have c8b0 : decide (a2 < 1) = true := decide_eq_true c8
            clear c8
            have H' := Aside0.mk H
            clear H
            go_wp2
            repeat (go_quiet (fail); try go_wp2)
            go_meet
            case rel => exact ⟨_, (true), (by first | rfl | (simp; done) | (simp [*]; done)), H', ⟨by first | omega | exact Nat.le_refl _⟩, ⟨by repeat (first | (with_reducible first | exact HB.out | apply below_alloc | apply pw_below_drewN | apply below_drew1) | exact HB.out)⟩⟩
          · rw [if_neg c8] at H
            have c8b0 : decide (a2 < 1) = false := decide_eq_false c8
            clear c8
            have H' := Aside0.mk H
            clear H
            go_wp2
            repeat (go_quiet (fail); try go_wp2)
            go_meet
            case rel => exact ⟨_, (decide (a2 > a0)), (by first | rfl | (simp; done) | (simp [*]; done)), H', ⟨by first | omega | exact Nat.le_refl _⟩, ⟨by repeat (first | (with_reducible first | exact HB.out | apply below_alloc | apply pw_below_drewN | apply below_drew1) | exact HB.out)⟩⟩
    · rw [if_neg c5] at H
      have c5b0 : (a0 == 2) = false := beq_eq_false_iff_ne.mpr c5
      have c5b1 : (a0 != 2) = true := bne_iff_ne.mpr c5
      (first | rw [c5b0] | (simp only [i64_w, i32_w]; rw [c5b0]) | skip)
      by_cases c9 : a0 = 3
      · rw [if_pos c9] at H
        have c9b0 : (a0 == 3) = true := beq_iff_eq.mpr c9
        have c9b1 : (a0 != 3) = false := bne_eq_false_iff_eq.mpr c9
        clear c9
        by_cases c10 : a1 < 1
        · rw [if_pos c10] at H
          have c10b0 : decide (a1 < 1) = true := decide_eq_true c10
          clear c10
          have H' := Aside0.mk H
          clear H
          go_wp2
          repeat (go_quiet (fail); try go_wp2)
          go_meet
          case rel => exact ⟨_, (true), (by first | rfl | (simp; done) | (simp [*]; done)), H', ⟨by first | omega | exact Nat.le_refl _⟩, ⟨by repeat (first | (with_reducible first | exact HB.out | apply below_alloc | apply pw_below_drewN | apply below_drew1) | exact HB.out)⟩⟩
        · rw [if_neg c10] at H
          have c10b0 : decide (a1 < 1) = false := decide_eq_false c10
          clear c10
          by_cases c11 : a1 > 2
          · rw [if_pos c11] at H
            have c11b0 : decide (2 < a1) = true := decide_eq_true c11
            clear c11
            have H' := Aside0.mk H
            clear H
            go_wp2
            repeat (go_quiet (fail); try go_wp2)
            go_meet
            case rel => exact ⟨_, (true), (by first | rfl | (simp; done) | (simp [*]; done)), H', ⟨by first | omega | exact Nat.le_refl _⟩, ⟨by repeat (first | (with_reducible first | exact HB.out | apply below_alloc | apply pw_below_drewN | apply below_drew1) | exact HB.out)⟩⟩
          · rw [if_neg c11] at H
            have c11b0 : decide (2 < a1) = false := decide_eq_false c11
            clear c11
            by_cases c12 : a2 < 1
            · rw [if_pos c12] at H
              have c12b0 : decide (a2 < 1) = true := decide_eq_true c12
              clear c12
              have H' := Aside0.mk H
              clear H
              go_wp2
              repeat (go_quiet (fail); try go_wp2)
              go_meet
              case rel => exact ⟨_, (true), (by first | rfl | (simp; done) | (simp [*]; done)), H', ⟨by first | omega | exact Nat.le_refl _⟩, ⟨by repeat (first | (with_reducible first | exact HB.out | apply below_alloc | apply pw_below_drewN | apply below_drew1) | exact HB.out)⟩⟩
            · rw [if_neg c12] at H
              have c12b0 : decide (a2 < 1) = false := decide_eq_false c12
              clear c12
              have H' := Aside0.mk H
              clear H
              go_wp2
              repeat (go_quiet (fail); try go_wp2)
              go_meet
              case rel => exact ⟨_, (decide (a2 > a0)), (by first | rfl | (simp; done) | (simp [*]; done)), H', ⟨by first | omega | exact Nat.le_refl _⟩, ⟨by repeat (first | (with_reducible first | exact HB.out | apply below_alloc | apply pw_below_drewN | apply below_drew1) | exact HB.out)⟩⟩
      · rw [if_neg c9] at H
        have c9b0 : (a0 == 3) = false := beq_eq_false_iff_ne.mpr c9
        have c9b1 : (a0 != 3) = true := bne_iff_ne.mpr c9
        by_cases c13 : a0 = 5
        · rw [if_pos c13] at H
          have c13b0 : (a0 == 5) = true := beq_iff_eq.mpr c13
          have c13b1 : (a0 != 5) = false := bne_eq_false_iff_eq.mpr c13
          clear c13
          by_cases c14 : a1 < 1
          · rw [if_pos c14] at H
            have c14b0 : decide (a1 < 1) = true := decide_eq_true c14
            clear c14
            have H' := Aside0.mk H
            clear H
            go_wp2
            repeat (go_quiet (fail); try go_wp2)
            go_meet
            case rel => exact ⟨_, (true), (by first | rfl | (simp; done) | (simp [*]; done)), H', ⟨by first | omega | exact Nat.le_refl _⟩, ⟨by repeat (first | (with_reducible first | exact HB.out | apply below_alloc | apply pw_below_drewN | apply below_drew1) | exact HB.out)⟩⟩
          · rw [if_neg c14] at H
            have c14b0 : decide (a1 < 1) = false := decide_eq_false c14
            clear c14
            by_cases c15 : a1 > 2
            · rw [if_pos c15] at H
              have c15b0 : decide (2 < a1) = true := decide_eq_true c15
              clear c15
              have H' := Aside0.mk H
              clear H
              go_wp2
              repeat (go_quiet (fail); try go_wp2)
              go_meet
              case rel => exact ⟨_, (true), (by first | rfl | (simp; done) | (simp [*]; done)), H', ⟨by first | omega | exact Nat.le_refl _⟩, ⟨by repeat (first | (with_reducible first | exact HB.out | apply below_alloc | apply pw_below_drewN | apply below_drew1) | exact HB.out)⟩⟩
            · rw [if_neg c15] at H
              have c15b0 : decide (2 < a1) = false := decide_eq_false c15
              clear c15
              by_cases c16 : a2 < 1
              · rw [if_pos c16] at H
                have c16b0 : decide (a2 < 1) = true := decide_eq_true c16
                clear c16
                have H' := Aside0.mk H
                clear H
                go_wp2
                repeat (go_quiet (fail); try go_wp2)
                go_meet
                case rel => exact ⟨_, (true), (by first | rfl | (simp; done) | (simp [*]; done)), H', ⟨by first | omega | exact Nat.le_refl _⟩, ⟨by repeat (first | (with_reducible first | exact HB.out | apply below_alloc | apply pw_below_drewN | apply below_drew1) | exact HB.out)⟩⟩
              · rw [if_neg c16] at H
                have c16b0 : decide (a2 < 1) = false := decide_eq_false c16
                clear c16
                have H' := Aside0.mk H
                clear H
                go_wp2
                repeat (go_quiet (fail); try go_wp2)
                go_meet
                case rel => exact ⟨_, (decide (a2 > a0)), (by first | rfl | (simp; done) | (simp [*]; done)), H', ⟨by first | omega | exact Nat.le_refl _⟩, ⟨by repeat (first | (with_reducible first | exact HB.out | apply below_alloc | apply pw_below_drewN | apply below_drew1) | exact HB.out)⟩⟩
        · rw [if_neg c13] at H
          have c13b0 : (a0 == 5) = false := beq_eq_false_iff_ne.mpr c13
          have c13b1 : (a0 != 5) = true := bne_iff_ne.mpr c13
          by_cases c17 : a0 = 7
          · rw [if_pos c17] at H
            have c17b0 : (a0 == 7) = true := beq_iff_eq.mpr c17
            have c17b1 : (a0 != 7) = false := bne_eq_false_iff_eq.mpr c17
            clear c17
            by_cases c18 : a1 < 1
            · rw [if_pos c18] at H
              have c18b0 : decide (a1 < 1) = true := decide_eq_true c18
              clear c18
              have H' := Aside0.mk H
              clear H
              go_wp2
              repeat (go_quiet (fail); try go_wp2)
              go_meet
              case rel => exact ⟨_, (true), (by first | rfl | (simp; done) | (simp [*]; done)), H', ⟨by first | omega | exact Nat.le_refl _⟩, ⟨by repeat (first | (with_reducible first | exact HB.out | apply below_alloc | apply pw_below_drewN | apply below_drew1) | exact HB.out)⟩⟩
            · rw [if_neg c18] at H
              have c18b0 : decide (a1 < 1) = false := decide_eq_false c18
              clear c18
              by_cases c19 : a1 > 2
              · rw [if_pos c19] at H
                have c19b0 : decide (2 < a1) = true := decide_eq_true c19
                clear c19
                have H' := Aside0.mk H
                clear H
                go_wp2
                repeat (go_quiet (fail); try go_wp2)
                go_meet
                case rel => exact ⟨_, (true), (by first | rfl | (simp; done) | (simp [*]; done)), H', ⟨by first | omega | exact Nat.le_refl _⟩, ⟨by repeat (first | (with_reducible first | exact HB.out | apply below_alloc | apply pw_below_drewN | apply below_drew1) | exact HB.out)⟩⟩
              · rw [if_neg c19] at H
                have c19b0 : decide (2 < a1) = false := decide_eq_false c19
                clear c19
                by_cases c20 : a2 < 1
                · rw [if_pos c20] at H
                  have c20b0 : decide (a2 < 1) = true := decide_eq_true c20
                  clear c20
                  have H' := Aside0.mk H
                  clear H
                  go_wp2
                  repeat (go_quiet (fail); try go_wp2)
                  go_meet
                  case rel => exact ⟨_, (true), (by first | rfl | (simp; done) | (simp [*]; done)), H', ⟨by first | omega | exact Nat.le_refl _⟩, ⟨by repeat (first | (with_reducible first | exact HB.out | apply below_alloc | apply pw_below_drewN | apply below_drew1) | exact HB.out)⟩⟩
                · rw [if_neg c20] at H
                  have c20b0 : decide (a2 < 1) = false := decide_eq_false c20
                  clear c20
                  have H' := Aside0.mk H
                  clear H
                  go_wp2
                  repeat (go_quiet (fail); try go_wp2)
                  go_meet
                  case rel => exact ⟨_, (decide (a2 > a0)), (by first | rfl | (simp; done) | (simp [*]; done)), H', ⟨by first | omega | exact Nat.le_refl _⟩, ⟨by repeat (first | (with_reducible first | exact HB.out | apply below_alloc | apply pw_below_drewN | apply below_drew1) | exact HB.out)⟩⟩
          · rw [if_neg c17] at H
            have c17b0 : (a0 == 7) = false := beq_eq_false_iff_ne.mpr c17
            have c17b1 : (a0 != 7) = true := bne_iff_ne.mpr c17
            have H' := Aside0.mk H
            clear H
            go_wp2
            repeat (go_quiet (fail); try go_wp2)
            go_meet
            case rel => exact ⟨_, (true), (by first | rfl | (simp; done) | (simp [*]; done)), H', ⟨by first | omega | exact Nat.le_refl _⟩, ⟨by repeat (first | (with_reducible first | exact HB.out | apply below_alloc | apply pw_below_drewN | apply below_drew1) | exact HB.out)⟩⟩
  case rest =>
    clear HC4
    try clear c1
    try clear c2
    try clear p2
    try clear c5
    try clear c5b0
    try clear c5b1
    try clear c6
    try clear c6b0
    try clear c7
    try clear c7b0
    try clear c8
    try clear c8b0
    try clear c9
    try clear c9b0
    try clear c9b1
    try clear c10
    try clear c10b0
    try clear c11
    try clear c11b0
    try clear c12
    try clear c12b0
    try clear c13
    try clear c13b0
    try clear c13b1
    try clear c14
    try clear c14b0
    try clear c15
    try clear c15b0
    try clear c16
    try clear c16b0
    try clear c17
    try clear c17b0
    try clear c17b1
    try clear c18
    try clear c18b0
    try clear c19
    try clear c19b0
    try clear c20
    try clear c20b0
    obtain ⟨kq, x43_3, rfl, HA, HJ3, HB⟩ := hcut
    cases kq with
    | zero => exact absurd HA.out (by simp [find_Kautz.j0])
    | succ kj3 =>
      have H := HA.out
      clear HA
      simp only [find_Kautz.j0] at H
      by_cases c21 : x43_3 = true
      · subst c21
        have H1 : (some (([] : List (List Int)), 2)) = some (r1, r2) := by rw [if_pos rfl] at H; exact H
        clear H
        have H := H1
        clear H1
        simp only [Option.some.injEq, Prod.mk.injEq] at H
        obtain ⟨rfl, rfl⟩ := H
        go_wp2
        repeat (go_quiet (fail); try go_wp2)
        go_ret2
        exact ⟨_, by first | rfl | (simp [errW_none, errW_some] <;> rfl) | (simp [*, errW_none, errW_some] <;> rfl), by first | exact Kd.S_nil _ _ _ _ _ | exact Kd.N_nil _ _ _ _ _ | exact Kd.V_nil _ _ _ _ _ | exact Kd.Q_nil _ _ _ _ _ | exact Kd.R_nil _ _ _ _ _, by repeat (first | (with_reducible first | exact HB.out | apply below_alloc | apply pw_below_drewN | apply below_drew1) | exact HB.out)⟩
      · replace c21 := Bool.eq_false_iff.mpr c21
        subst c21
        have H1 : (if 0 ≤ (wrap64 (a0 * a2)) then (if (wrap64 (a0 * a2) : Int).toNat ≤ 11728124029610 then ((some (List.replicate (wrap64 (a0 * a2) : Int).toNat [] : List (List Int))).bind fun y173 => (if a1 = 2 then (find_Kautz.j1 kj3 a0 a2 y173 (wrap64 (a0 * a0))) else (find_Kautz.j1 kj3 a0 a2 y173 a0))) else (none)) else (none)) = some (r1, r2) := by rw [if_neg (show ¬ (false = true) by decide)] at H; exact H
        clear H
        have H := H1
        clear H1
        obtain ⟨ji22, hji22⟩ : ∃ j_ : Int, (wrap64 (a0 * a2)) = j_ := ⟨_, rfl⟩
        replace H : (if 0 ≤ (ji22) then (if (ji22 : Int).toNat ≤ 11728124029610 then ((some (List.replicate (ji22 : Int).toNat [] : List (List Int))).bind fun y173 => (if a1 = 2 then (find_Kautz.j1 kj3 a0 a2 y173 (wrap64 (a0 * a0))) else (find_Kautz.j1 kj3 a0 a2 y173 a0))) else (none)) else (none)) = some (r1, r2) := by first | (rw [hji22] at H; exact H) | (simp only [hji22] at H ⊢; exact H)
        have hji22w : (IntKind.i64.wrap (a0 * a2)) = ji22 := (i64_w _).trans hji22
        by_cases c23 : 0 ≤ (ji22)
        · rw [if_pos c23] at H
          have c23b0 := eq_true c23
          have c23b1 : decide (0 ≤ (ji22)) = true := decide_eq_true c23
          clear c23
          by_cases c24 : (ji22 : Int).toNat ≤ 11728124029610
          · rw [if_pos c24] at H
            have c24b0 := eq_true c24
            have c24b1 : decide ((ji22 : Int).toNat ≤ 11728124029610) = true := decide_eq_true c24
            clear c24
            obtain ⟨y173, hy173⟩ : ∃ y_ : List (List Int), y_ = (List.replicate (ji22 : Int).toNat []) := ⟨_, rfl⟩
            replace H : (if a1 = 2 then (find_Kautz.j1 kj3 a0 a2 y173 (wrap64 (a0 * a0))) else (find_Kautz.j1 kj3 a0 a2 y173 a0)) = some (r1, r2) := by first | (rw [hy173]; with_reducible exact H) | (have H2_ := (Option.bind_some _ _).symm.trans H; rw [hy173]; with_reducible exact H2_) | (have H2_ := (Option.bind_some _ _).symm.trans H; with_reducible exact H2_) | with_reducible exact H | (rw [hy173]; exact H) | exact H
            have Ny173 := Aside0.mk hy173
            clear hy173
            have HC25 := Aside0.mk H
            clear H
            go_upto_if 50 with (first | ((with_reducible refine gate_dst (N := 47) rfl ?_); refine Kd.S_make (Kd.slice 3 (Kd.int .i64)) _ 25 rfl (N := 47) rfl 22 _ _ rfl ji22 rfl rfl Tryd.underlying22 (.slice none 0 0) 24 info25 rfl (by decide) (by omega) [] (ok := fun _ => True) (okp := fun _ => True) ⟨_, rfl, Kd.R_nil _ _ _ _ _⟩ (fun _ hk => hk) trivial (of_decide_eq_true (by first | (with_reducible assumption) | assumption)) (Nat.le_trans (Nat.mul_le_mul_right _ (of_decide_eq_true (by first | (with_reducible assumption) | assumption) : ji22.toNat ≤ 11728124029610)) (by omega)) (Below.refl _ _) (Nat.le_refl _) ?_; intro v174 w26 ho27 hb hg_ hnew_; clear hg_ hnew_; (first | rw [← Ny173.out] at ho27 | (simp only [Int.reduceToNat] at ho27; rw [← Ny173.out] at ho27)); have n0_ := Aside0.mk (Kd.S_lower ho27 (below_size (by repeat (first | (with_reducible first | exact HB.out | apply below_alloc | apply pw_below_drewN | apply below_drew1) | exact HB.out)))); have n1_ := Aside0.mk (below_step (by repeat (first | (with_reducible first | exact HB.out | apply below_alloc | apply pw_below_drewN | apply below_drew1) | exact HB.out)) hb); clear HB; have HO175 := n0_; have HB := n1_; clear n0_ n1_; clear hb ho27))
            repeat (go_quiet (first | ((with_reducible refine gate_dst (N := 47) rfl ?_); refine Kd.S_make (Kd.slice 3 (Kd.int .i64)) _ 25 rfl (N := 47) rfl 22 _ _ rfl ji22 rfl rfl Tryd.underlying22 (.slice none 0 0) 24 info25 rfl (by decide) (by omega) [] (ok := fun _ => True) (okp := fun _ => True) ⟨_, rfl, Kd.R_nil _ _ _ _ _⟩ (fun _ hk => hk) trivial (of_decide_eq_true (by first | (with_reducible assumption) | assumption)) (Nat.le_trans (Nat.mul_le_mul_right _ (of_decide_eq_true (by first | (with_reducible assumption) | assumption) : ji22.toNat ≤ 11728124029610)) (by omega)) (Below.refl _ _) (Nat.le_refl _) ?_; intro v174 w26 ho27 hb hg_ hnew_; clear hg_ hnew_; (first | rw [← Ny173.out] at ho27 | (simp only [Int.reduceToNat] at ho27; rw [← Ny173.out] at ho27)); have n0_ := Aside0.mk (Kd.S_lower ho27 (below_size (by repeat (first | (with_reducible first | exact HB.out | apply below_alloc | apply pw_below_drewN | apply below_drew1) | exact HB.out)))); have n1_ := Aside0.mk (below_step (by repeat (first | (with_reducible first | exact HB.out | apply below_alloc | apply pw_below_drewN | apply below_drew1) | exact HB.out)) hb); clear HB; have HO175 := n0_; have HB := n1_; clear n0_ n1_; clear hb ho27)); go_upto_if 50 with (first | ((with_reducible refine gate_dst (N := 47) rfl ?_); refine Kd.S_make (Kd.slice 3 (Kd.int .i64)) _ 25 rfl (N := 47) rfl 22 _ _ rfl ji22 rfl rfl Tryd.underlying22 (.slice none 0 0) 24 info25 rfl (by decide) (by omega) [] (ok := fun _ => True) (okp := fun _ => True) ⟨_, rfl, Kd.R_nil _ _ _ _ _⟩ (fun _ hk => hk) trivial (of_decide_eq_true (by first | (with_reducible assumption) | assumption)) (Nat.le_trans (Nat.mul_le_mul_right _ (of_decide_eq_true (by first | (with_reducible assumption) | assumption) : ji22.toNat ≤ 11728124029610)) (by omega)) (Below.refl _ _) (Nat.le_refl _) ?_; intro v174 w26 ho27 hb hg_ hnew_; clear hg_ hnew_; (first | rw [← Ny173.out] at ho27 | (simp only [Int.reduceToNat] at ho27; rw [← Ny173.out] at ho27)); have n0_ := Aside0.mk (Kd.S_lower ho27 (below_size (by repeat (first | (with_reducible first | exact HB.out | apply below_alloc | apply pw_below_drewN | apply below_drew1) | exact HB.out)))); have n1_ := Aside0.mk (below_step (by repeat (first | (with_reducible first | exact HB.out | apply below_alloc | apply pw_below_drewN | apply below_drew1) | exact HB.out)) hb); clear HB; have HO175 := n0_; have HB := n1_; clear n0_ n1_; clear hb ho27)))
            (try simp only [Act.put, List.setIfInBounds_toArray, List.set_cons_zero, List.set_cons_succ])
            go_cut [9] (fun v9 wc => ∃ (kq : Nat) (x9_24 : Int), v9 = .int .i64 x9_24 ∧ Aside0 (find_Kautz.j1 kq a0 a2 y173 x9_24 = some (r1, r2)) ∧ Aside0 (kq ≤ kj3) ∧ Aside0 (Kd.S (Kd.slice 3 (Kd.int .i64)) 25 wc w.heap.size (fun _ => True) v174 y173) ∧ Aside0 (Below w.heap.size w wc))
            case first =>
              have H := HC25.out
              clear HC25
              by_cases c28 : a1 = 2
              · rw [if_pos c28] at H
                have c28b0 : (a1 == 2) = true := beq_iff_eq.mpr c28
                have c28b1 : (a1 != 2) = false := bne_eq_false_iff_eq.mpr c28
                clear c28
                (first | rw [c28b0] | (simp only [i64_w, i32_w]; rw [c28b0]) | skip)
                have H' := Aside0.mk H
                clear H
                go_wp2
                repeat (go_quiet (fail); try go_wp2)
                go_meet
                case rel => exact ⟨_, (wrap64 (a0 * a0)), (by first | rfl | (simp; done) | (simp [*]; done)), H', ⟨by have := HJ3.out; first | omega | exact Nat.le_refl _⟩, ⟨by (with_reducible repeat (first | apply Kd.S_alloc | apply Kd.S_drewN | apply Kd.S_drew)); first | exact HO175.out | exact Kd.R_mono HO175.out (fun k_ h_ => ne_own_len h_)⟩, ⟨by repeat (first | (with_reducible first | exact HB.out | apply below_alloc | apply pw_below_drewN | apply below_drew1) | exact HB.out)⟩⟩
              · rw [if_neg c28] at H
                have c28b0 : (a1 == 2) = false := beq_eq_false_iff_ne.mpr c28
                have c28b1 : (a1 != 2) = true := bne_iff_ne.mpr c28
                (first | rw [c28b0] | (simp only [i64_w, i32_w]; rw [c28b0]) | skip)
                have H' := Aside0.mk H
                clear H
                go_wp2
                repeat (go_quiet (fail); try go_wp2)
                go_meet
                case rel => exact ⟨_, (a0), (by first | rfl | (simp; done) | (simp [*]; done)), H', ⟨by have := HJ3.out; first | omega | exact Nat.le_refl _⟩, ⟨by (with_reducible repeat (first | apply Kd.S_alloc | apply Kd.S_drewN | apply Kd.S_drew)); first | exact HO175.out | exact Kd.R_mono HO175.out (fun k_ h_ => ne_own_len h_)⟩, ⟨by repeat (first | (with_reducible first | exact HB.out | apply below_alloc | apply pw_below_drewN | apply below_drew1) | exact HB.out)⟩⟩
            case rest =>
              clear HC25
              try clear c1
              try clear c2
              try clear p2
              try clear c5
              try clear c5b0
              try clear c5b1
              try clear c6
              try clear c6b0
              try clear p6
              try clear c7
              try clear c7b0
              try clear c8
              try clear c8b0
              try clear c9
              try clear c9b0
              try clear c9b1
              try clear c10
              try clear c10b0
              try clear c11
              try clear c11b0
              try clear c12
              try clear c12b0
              try clear c13
              try clear c13b0
              try clear c13b1
              try clear c14
              try clear c14b0
              try clear c15
              try clear c15b0
              try clear c16
              try clear c16b0
              try clear c17
              try clear c17b0
              try clear c17b1
              try clear c18
              try clear c18b0
              try clear c19
              try clear c19b0
              try clear c20
              try clear c20b0
              try clear c21
              try clear c23
              try clear c23b0
              try clear c23b1
              try clear c24
              try clear c24b0
              try clear c24b1
              try clear c28
              try clear c28b0
              try clear c28b1
              try clear p2
              obtain ⟨kq, x9_24, rfl, HA, HJ24, HO_8, HB⟩ := hcut
              cases kq with
              | zero => exact absurd HA.out (by simp [find_Kautz.j1])
              | succ kj24 =>
                have H := HA.out
                clear HA
                simp only [find_Kautz.j1] at H
                have H' := Aside0.mk H
                clear H
                go_wp2
                repeat (go_quiet (fail); try go_wp2)
                go_loopg [55] kj24 (fun kq v55 w' => ∃ (x8_3 : List (List Int)) (x55_3 : Int), v55 = .int .i64 x55_3 ∧ Aside0 (find_Kautz.l0 kq a0 a2 x8_3 x9_24 x55_3 = some (r1, r2)) ∧ Aside0 (kq ≤ kj24) ∧ Aside0 (Kd.S (Kd.slice 3 (Kd.int .i64)) 25 w' w.heap.size (fun _ => True) v174 x8_3) ∧ Aside0 (Below w.heap.size w w'))
                case atStart => exact ⟨(y173), (0), (by first | rfl | (simp; done) | (simp [*]; done)), H', ⟨Nat.le_refl _⟩, ⟨by (with_reducible repeat (first | apply Kd.S_alloc | apply Kd.S_drewN | apply Kd.S_drew)); first | exact HO_8.out | exact Kd.R_mono HO_8.out (fun k_ h_ => ne_own_len h_)⟩, ⟨by repeat (first | (with_reducible first | exact HB.out | apply below_alloc | apply pw_below_drewN | apply below_drew1) | exact HB.out)⟩⟩
                case round =>
                  clear H'
                  try clear c1
                  try clear c2
                  try clear p2
                  try clear c5
                  try clear c5b0
                  try clear c5b1
                  try clear c6
                  try clear c6b0
                  try clear p6
                  try clear c7
                  try clear c7b0
                  try clear c8
                  try clear c8b0
                  try clear c9
                  try clear c9b0
                  try clear c9b1
                  try clear c10
                  try clear c10b0
                  try clear c11
                  try clear c11b0
                  try clear c12
                  try clear c12b0
                  try clear c13
                  try clear c13b0
                  try clear c13b1
                  try clear c14
                  try clear c14b0
                  try clear c15
                  try clear c15b0
                  try clear c16
                  try clear c16b0
                  try clear c17
                  try clear c17b0
                  try clear c17b1
                  try clear c18
                  try clear c18b0
                  try clear c19
                  try clear c19b0
                  try clear c20
                  try clear c20b0
                  try clear c21
                  try clear c23
                  try clear c23b0
                  try clear c23b1
                  try clear c24
                  try clear c24b0
                  try clear c24b1
                  try clear c28
                  try clear c28b0
                  try clear c28b1
                  try clear p2
                  try clear p6
                  obtain ⟨x8_3, x55_3, rfl, HA, HK3, HO_8, HB⟩ := hrel
                  cases gk with
                  | zero => exact absurd HA.out (by simp [find_Kautz.l0])
                  | succ k3 =>
                    have H := HA.out
                    clear HA
                    simp only [find_Kautz.l0] at H
                    by_cases c29 : x55_3 < x9_24
                    · rw [if_pos c29] at H
                      have c29b0 : decide (x55_3 < x9_24) = true := decide_eq_true c29
                      clear c29
                      have H' := Aside0.mk H
                      clear H
                      go_wp2
                      repeat (go_quiet (fail); try go_wp2)
                      go_loopg [59] k3 (fun kq v59 w' => ∃ (x8_4 : List (List Int)) (x59_4 : Int), v59 = .int .i64 x59_4 ∧ Aside0 (find_Kautz.l1 kq a0 a2 x8_4 x55_3 x9_24 x55_3 a2 x59_4 = some (r1, r2)) ∧ Aside0 (kq ≤ k3) ∧ Aside0 (Kd.S (Kd.slice 3 (Kd.int .i64)) 25 w' w.heap.size (fun _ => True) v174 x8_4) ∧ Aside0 (Below w.heap.size w w'))
                      case atStart => exact ⟨(x8_3), (0), (by first | rfl | (simp; done) | (simp [*]; done)), H', ⟨Nat.le_refl _⟩, ⟨by (with_reducible repeat (first | apply Kd.S_alloc | apply Kd.S_drewN | apply Kd.S_drew)); first | exact HO_8.out | exact Kd.R_mono HO_8.out (fun k_ h_ => ne_own_len h_)⟩, ⟨by repeat (first | (with_reducible first | exact HB.out | apply below_alloc | apply pw_below_drewN | apply below_drew1) | exact HB.out)⟩⟩
                      case round =>
                        clear H'
                        try clear c1
                        try clear c2
                        try clear p2
                        try clear c5
                        try clear c5b0
                        try clear c5b1
                        try clear c6
                        try clear c6b0
                        try clear p6
                        try clear c7
                        try clear c7b0
                        try clear c8
                        try clear c8b0
                        try clear c9
                        try clear c9b0
                        try clear c9b1
                        try clear c10
                        try clear c10b0
                        try clear c11
                        try clear c11b0
                        try clear c12
                        try clear c12b0
                        try clear c13
                        try clear c13b0
                        try clear c13b1
                        try clear c14
                        try clear c14b0
                        try clear c15
                        try clear c15b0
                        try clear c16
                        try clear c16b0
                        try clear c17
                        try clear c17b0
                        try clear c17b1
                        try clear c18
                        try clear c18b0
                        try clear c19
                        try clear c19b0
                        try clear c20
                        try clear c20b0
                        try clear c21
                        try clear c23
                        try clear c23b0
                        try clear c23b1
                        try clear c24
                        try clear c24b0
                        try clear c24b1
                        try clear c28
                        try clear c28b0
                        try clear c28b1
                        try clear c29
                        try clear c29b0
                        try clear p2
                        try clear p6
                        obtain ⟨x8_4, x59_4, rfl, HA, HK4, HO_8, HB⟩ := hrel
                        cases gk with
                        | zero => exact absurd HA.out (by simp [find_Kautz.l1])
                        | succ k4 =>
                          have H := HA.out
                          clear HA
                          simp only [find_Kautz.l1] at H
                          by_cases c30 : x59_4 < a2
                          · rw [if_pos c30] at H
                            have c30b0 : decide (x59_4 < a2) = true := decide_eq_true c30
                            clear c30
                            by_cases c31 : a0 = 0
                            · rw [if_pos c31] at H
                              exact absurd H (by simp)
                            · rw [if_neg c31] at H
                              have c31b0 : (a0 == 0) = false := beq_eq_false_iff_ne.mpr c31
                              have c31b1 : (a0 != 0) = true := bne_iff_ne.mpr c31
                              obtain ⟨ji32, hji32⟩ : ∃ j_ : Int, (wrap64 ((wrap64 (x59_4 * a0)) + (Int.tmod (wrap64 ((Int.tmod x55_3 a0) + (wrap64 ((wrap64 (Int.tdiv x55_3 a0)) * x59_4)))) a0))) = j_ := ⟨_, rfl⟩
                              replace H : (if 0 ≤ (ji32) then (if (ji32) < (x8_4.length : Int) then (if (rd_L1 x8_4 (ji32)).length < 17592186044416 then (find_Kautz.l1 k4 a0 a2 (x8_4.set ((ji32) : Int).toNat ((rd_L1 x8_4 (ji32)) ++ [x55_3])) x55_3 x9_24 x55_3 a2 (wrap64 (x59_4 + 1))) else (none)) else (none)) else (none)) = some (r1, r2) := by first | (rw [hji32] at H; exact H) | (simp only [hji32] at H ⊢; exact H)
                              have hji32w : (IntKind.i64.wrap ((wrap64 (x59_4 * a0)) + (Int.tmod (wrap64 ((Int.tmod x55_3 a0) + (wrap64 ((wrap64 (Int.tdiv x55_3 a0)) * x59_4)))) a0))) = ji32 := (i64_w _).trans hji32
                              by_cases c33 : 0 ≤ (ji32)
                              · rw [if_pos c33] at H
                                have c33b0 : decide (0 ≤ (ji32)) = true := decide_eq_true c33
                                clear c33
                                by_cases c34 : (ji32) < (x8_4.length : Int)
                                · rw [if_pos c34] at H
                                  have c34b0 : decide ((ji32) < (x8_4.length : Int)) = true := decide_eq_true c34
                                  clear c34
                                  by_cases c35 : (rd_L1 x8_4 (ji32)).length < 17592186044416
                                  · rw [if_pos c35] at H
                                    have LMc35 := Aside0.mk c35
                                    clear c35
                                    obtain ⟨y177, hy177⟩ : ∃ y_ : List Int, y_ = ((rd_L1 x8_4 (ji32)) ++ [x55_3]) := ⟨_, rfl⟩
                                    replace H : (find_Kautz.l1 k4 a0 a2 (x8_4.set ((ji32) : Int).toNat y177) x55_3 x9_24 x55_3 a2 (wrap64 (x59_4 + 1))) = some (r1, r2) := by first | (rw [hy177]; with_reducible exact H) | (have H2_ := (Option.bind_some _ _).symm.trans H; rw [hy177]; with_reducible exact H2_) | (have H2_ := (Option.bind_some _ _).symm.trans H; with_reducible exact H2_) | with_reducible exact H | (rw [hy177]; exact H) | exact H
                                    have Ny177 := Aside0.mk hy177
                                    clear hy177
                                    obtain ⟨y180, hy180⟩ : ∃ y_ : List (List Int), y_ = (x8_4.set ((ji32) : Int).toNat y177) := ⟨_, rfl⟩
                                    replace H : (find_Kautz.l1 k4 a0 a2 y180 x55_3 x9_24 x55_3 a2 (wrap64 (x59_4 + 1))) = some (r1, r2) := by first | (rw [hy180]; with_reducible exact H) | (have H2_ := (Option.bind_some _ _).symm.trans H; rw [hy180]; with_reducible exact H2_) | (have H2_ := (Option.bind_some _ _).symm.trans H; with_reducible exact H2_) | with_reducible exact H | (rw [hy180]; exact H) | exact H
                                    have Ny180 := Aside0.mk hy180
                                    clear hy180
                                    have H' := Aside0.mk H
                                    clear H
                                    obtain ⟨Ao37, co37, eo37⟩ := Kd.S_slice HO_8.out
                                    subst eo37
                                    have p176 : 0 ≤ ((ji32) : Int) := of_decide_eq_true (by first | (with_reducible assumption) | assumption)
                                    have q176 : (ji32) < (x8_4.length : Int) := of_decide_eq_true (by first | (with_reducible assumption) | assumption)
                                    obtain ⟨ad176, A176_0, c176_0, e176, hx176_0, hl176_0, hi176_0⟩ := at_L1 (Kd.S_reads' HO_8.out).2.2 (ji32) p176 q176
                                    cases e176
                                    obtain ⟨ce176, hce176, hMe176, hcc176⟩ := Kd.S_get HO_8.out [] (ji32) p176 (by first | exact q176 | exact of_decide_eq_true (by first | (with_reducible assumption) | assumption) | (have e_ := (Kd.S_reads' HO_8.out).1; omega))
                                    obtain ⟨ve176_0, rfl, ge176_0⟩ := hMe176
                                    have hv176_0 := hcc176 0 _ rfl
                                    rw [Nat.add_zero, show ((Kd.slice 3 (Kd.int .i64))).sz = 1 from rfl, Nat.mul_one] at hv176_0
                                    replace hv176_0 := Option.some.inj (hv176_0.symm.trans hx176_0)
                                    rw [hv176_0] at ge176_0
                                    have HL176_0 := Aside0.mk (show Kd.R (Kd.int .i64) 3 _ _ _ _ (rd_L1 x8_4 (ji32)) from ge176_0)
                                    clear hv176_0 ge176_0
                                    have HX176_0 := Aside0.mk hx176_0
                                    clear hcc176 hce176
                                    have HR176_0 := Aside0.mk hi176_0
                                    have HC176_0 := Aside0.mk hl176_0
                                    clear hi176_0 hl176_0
                                    replace p176 := eq_true p176
                                    replace q176 := eq_true q176
                                    obtain ⟨go38, co38, eo38, gb38, gl38, cl38, HG38⟩ := Kd.S_form HO_8.out (by have h_ : ((ji32) : Int) < ((x8_4.length : Int) : Int) := of_decide_eq_true (by first | (with_reducible assumption) | assumption); have h2_ : 0 ≤ ((ji32) : Int) := (of_decide_eq_true (by first | (with_reducible assumption) | assumption)); omega)
                                    (first | cases eo38 | (injection eo38 with ea_ en_ ec_; (first | subst ea_ | (injection ea_ with ea_; subst ea_)); subst ec_; clear en_))
                                    have GB38 := Aside0.mk gb38
                                    have GG38 := Aside0.mk HG38
                                    clear gb38 gl38 HG38
                                    (first | simp only [add_plain] at hx176_0 | skip)
                                    obtain ⟨oki38, ce38, hcl38, hM38, hcc38, _, _, hH38⟩ := Kd.S_elem HO_8.out [] ((ji32) : Int) (of_decide_eq_true (by first | (with_reducible assumption) | assumption)) (by have h_ : ((ji32) : Int) < ((x8_4.length : Int) : Int) := of_decide_eq_true (by first | (with_reducible assumption) | assumption); first | exact h_ | (have e_ := (Kd.S_reads' HO_8.out).1; omega) | simpa using h_)
                                    obtain ⟨ve38_0, rfl, ge38_0⟩ := hM38
                                    have hv38 := hcc38 0 _ rfl
                                    have hX38 := HX176_0.out
                                    (try simp only [add_plain] at hX38)
                                    (try simp only [Nat.add_zero] at hv38)
                                    (try rw [show ((Kd.slice 3 (Kd.int .i64))).sz = 1 from rfl, Nat.mul_one] at hv38)
                                    replace hv38 := Option.some.inj (hv38.symm.trans hX38)
                                    subst hv38
                                    clear hX38 hcc38 hcl38
                                    have UU38 := Aside0.mk (show Kd.R (Kd.int .i64) 3 _ w.heap.size oki38 (.slice A176_0 (rd_L1 x8_4 (ji32)).length c176_0) (rd_L1 x8_4 (ji32)) from ge38_0)
                                    have HH38 := Aside0.mk hH38
                                    have HN38 := Aside0.mk (Kd.S_reads' HO_8.out).1
                                    clear hH38 ge38_0
                                    go_wp2_with (first | ((with_reducible refine gate_builtin (b := .append) (xs := #[.tmp 82, .tmp 84]) rfl ?_); at_builtin; refine Kd.R_append (Kd.int .i64) (w0 := w) w.heap.size rfl (.tmp 82) (.tmp 84) 25 3 (.int .i64 0) 8 rfl Tryd.underlying25 info3 rfl (by decide) (by omega) (.slice A176_0 (rd_L1 x8_4 (ji32)).length c176_0) (rd_L1 x8_4 (ji32)) x55_3 [.int .i64 x55_3] (fun k_ => oki38 k_ ∨ ((fun _ => True)) k_ ∧ wr.heap.size ≤ k_) (fun _ => False) rfl rfl ?aP (fun _ hk => hk.elim) ?aF ?aO ?aB ?aS ?aL ?_; (case aP => exact rfl); (case aB => exact (by repeat (first | (with_reducible first | exact HB.out | apply below_alloc | apply pw_below_drewN | apply below_drew1) | exact HB.out))); (case aF => exact (fun k_ hk => .inr ⟨trivial, hk⟩)); (case aO => exact (by (with_reducible repeat (first | apply Kd.R_alloc | apply Kd.R_drewN | apply Kd.R_drew)); exact Kd.R_mono UU38.out (fun _ hk => .inl hk))); (case aS => exact (below_size (by repeat (first | (with_reducible first | exact HB.out | apply below_alloc | apply pw_below_drewN | apply below_drew1) | exact HB.out)))); (case aL => have := LMc35.out; omega); intro v178 w39 ho hb hg hat; rw [← Ny177.out] at ho; have n0_ := Aside0.mk (hb); have n1_ := Aside0.mk (Kd.H_grown (Kd.H_widen (by repeat (first | exact HH38.out | refine Kd.H_alloc ?_ _ | refine Kd.H_drewN ?_ _ | refine Kd.H_drew ?_))) hg (fun k_ e_ => .inl (UU38.out.1 k_ e_))); have n2_ := Aside0.mk (ho); clear HB; clear HH38; clear HO_8; clear UU38; clear HL176_0; have HB := n0_; have HH38 := n1_; have HO179 := n2_; clear n0_ n1_ n2_; clear ho hb hg hat; have p36 : 0 ≤ ((ji32) : Int) := of_decide_eq_true (by first | (with_reducible assumption) | assumption); have q36 : ((ji32) : Int) < ((x8_4.length : Int) : Int) := of_decide_eq_true (by first | (with_reducible assumption) | assumption); replace p36 := eq_true p36; replace q36 := eq_true q36; obtain ⟨Ao42, co42, eo42⟩ := Kd.R_slice HO179.out; subst eo42; obtain ⟨_, _, hraw40, _, _, hcc40, _⟩ := Kd.H_raw HH38.out (of_decide_eq_true (by first | (with_reducible assumption) | assumption)) (by have h_ : ((ji32) : Int) < ((x8_4.length : Int) : Int) := of_decide_eq_true (by first | (with_reducible assumption) | assumption); first | exact h_ | (have e_ := (HN38.out); omega) | simpa using h_); obtain ⟨_, hfr40⟩ := Kd.H_at HH38.out (of_decide_eq_true (by first | (with_reducible assumption) | assumption)) (by have h_ : ((ji32) : Int) < ((x8_4.length : Int) : Int) := of_decide_eq_true (by first | (with_reducible assumption) | assumption); first | exact h_ | (have e_ := (HN38.out); omega) | simpa using h_); have hx40_0 := hcc40 0 _ rfl; have hf40_0 := hfr40 0; (try simp only [Nat.add_zero] at hx40_0 hf40_0); (try rw [show ((Kd.slice 3 (Kd.int .i64))).sz = 1 from rfl, Nat.mul_one] at hx40_0); (try rw [show ((Kd.slice 3 (Kd.int .i64))).sz = 1 from rfl, Nat.mul_one] at hf40_0); have HP40 := Kd.S_seg0 HH38.out (of_decide_eq_true (by first | (with_reducible assumption) | assumption)) (by have h_ : ((ji32) : Int) < ((x8_4.length : Int) : Int) := of_decide_eq_true (by first | (with_reducible assumption) | assumption); first | exact h_ | (have e_ := (HN38.out); omega) | simpa using h_) (seg := [.slice Ao42 y177.length co42]) (j := 0) (show 1 ≤ 1 from by decide) (x' := y177) (Kd.M_row HO179.out) (fun _ hk => hk); (try simp only [show ((Kd.slice 3 (Kd.int .i64))).sz = 1 from rfl, Nat.mul_one, Nat.add_zero] at HP40); clear hcc40 hfr40) | ((with_reducible refine gate_store (t := 25) (p := 86) rfl ?_); (try (rw [drewN_self w39]; generalize hq_ : World.drewN w39 _ = w39; have n0_ := Aside0.mk (Kd.S_at hq_ HO_8.out); have n1_ := Aside0.mk (below_at hq_ HB.out); clear hq_ HO_8 HB; have HO_8 := n0_; have HB := n1_; clear n0_ n1_; (try (obtain ⟨Ao42, co42, eo42⟩ := Kd.R_slice HO179.out)); (try (subst eo42)); (try (obtain ⟨_, _, hraw40, _, _, hcc40, _⟩ := Kd.H_raw HH38.out (of_decide_eq_true (by first | (with_reducible assumption) | assumption)) (by have h_ : ((ji32) : Int) < ((x8_4.length : Int) : Int) := of_decide_eq_true (by first | (with_reducible assumption) | assumption); first | exact h_ | (have e_ := (HN38.out); omega) | simpa using h_))); (try (obtain ⟨_, hfr40⟩ := Kd.H_at HH38.out (of_decide_eq_true (by first | (with_reducible assumption) | assumption)) (by have h_ : ((ji32) : Int) < ((x8_4.length : Int) : Int) := of_decide_eq_true (by first | (with_reducible assumption) | assumption); first | exact h_ | (have e_ := (HN38.out); omega) | simpa using h_))); (try (have hx40_0 := hcc40 0 _ rfl)); (try (have hf40_0 := hfr40 0)); (try (try simp only [Nat.add_zero] at hx40_0 hf40_0)); (try (try rw [show ((Kd.slice 3 (Kd.int .i64))).sz = 1 from rfl, Nat.mul_one] at hx40_0)); (try (try rw [show ((Kd.slice 3 (Kd.int .i64))).sz = 1 from rfl, Nat.mul_one] at hf40_0)); (try (have HP40 := Kd.S_seg0 HH38.out (of_decide_eq_true (by first | (with_reducible assumption) | assumption)) (by have h_ : ((ji32) : Int) < ((x8_4.length : Int) : Int) := of_decide_eq_true (by first | (with_reducible assumption) | assumption); first | exact h_ | (have e_ := (HN38.out); omega) | simpa using h_) (seg := [.slice Ao42 y177.length co42]) (j := 0) (show 1 ≤ 1 from by decide) (x' := y177) (Kd.M_row HO179.out) (fun _ hk => hk))); (try (try simp only [show ((Kd.slice 3 (Kd.int .i64))).sz = 1 from rfl, Nat.mul_one, Nat.add_zero] at HP40)); (try (clear hcc40 hfr40)))); refine store_event (t := 25) (p := 86) (v := ?vo_w41) (w1 := (w39.setCell ⟨go38, ((ji32) : Int).toNat, none⟩ (.slice Ao42 y177.length co42))) ?hg ?ho ?hn ?hr ?_; (case ho => rfl); (case hg => rfl); (case hn => rfl); (case hr => first | (go_simp; done) | (go_simp; rfl)); intro w41 hw; have hg : w39.grownBy w41 (some go38) := (by rw [hw]; exact HP40.2); have hp_ : Kd.S (Kd.slice 3 (Kd.int .i64)) 25 w41 w.heap.size (fun _ => True) (.slice (some ⟨go38, 0, none⟩) x8_4.length co37) y180 := (by rw [hw, Ny180.out]; exact HP40.1); clear HP40; have n0_ := Aside0.mk ((by rw [hw]; exact below_set HB.out GB38.out : Below w.heap.size w w41)); have n1_ := Aside0.mk (hp_); clear HB; clear HO179; clear HH38; have HB := n0_; have HO_8 := n1_; clear n0_ n1_; clear hg hw hp_ hraw40))
                                    repeat (go_quiet (first | ((with_reducible refine gate_builtin (b := .append) (xs := #[.tmp 82, .tmp 84]) rfl ?_); at_builtin; refine Kd.R_append (Kd.int .i64) (w0 := w) w.heap.size rfl (.tmp 82) (.tmp 84) 25 3 (.int .i64 0) 8 rfl Tryd.underlying25 info3 rfl (by decide) (by omega) (.slice A176_0 (rd_L1 x8_4 (ji32)).length c176_0) (rd_L1 x8_4 (ji32)) x55_3 [.int .i64 x55_3] (fun k_ => oki38 k_ ∨ ((fun _ => True)) k_ ∧ wr.heap.size ≤ k_) (fun _ => False) rfl rfl ?aP (fun _ hk => hk.elim) ?aF ?aO ?aB ?aS ?aL ?_; (case aP => exact rfl); (case aB => exact (by repeat (first | (with_reducible first | exact HB.out | apply below_alloc | apply pw_below_drewN | apply below_drew1) | exact HB.out))); (case aF => exact (fun k_ hk => .inr ⟨trivial, hk⟩)); (case aO => exact (by (with_reducible repeat (first | apply Kd.R_alloc | apply Kd.R_drewN | apply Kd.R_drew)); exact Kd.R_mono UU38.out (fun _ hk => .inl hk))); (case aS => exact (below_size (by repeat (first | (with_reducible first | exact HB.out | apply below_alloc | apply pw_below_drewN | apply below_drew1) | exact HB.out)))); (case aL => have := LMc35.out; omega); intro v178 w39 ho hb hg hat; rw [← Ny177.out] at ho; have n0_ := Aside0.mk (hb); have n1_ := Aside0.mk (Kd.H_grown (Kd.H_widen (by repeat (first | exact HH38.out | refine Kd.H_alloc ?_ _ | refine Kd.H_drewN ?_ _ | refine Kd.H_drew ?_))) hg (fun k_ e_ => .inl (UU38.out.1 k_ e_))); have n2_ := Aside0.mk (ho); clear HB; clear HH38; clear HO_8; clear UU38; clear HL176_0; have HB := n0_; have HH38 := n1_; have HO179 := n2_; clear n0_ n1_ n2_; clear ho hb hg hat; have p36 : 0 ≤ ((ji32) : Int) := of_decide_eq_true (by first | (with_reducible assumption) | assumption); have q36 : ((ji32) : Int) < ((x8_4.length : Int) : Int) := of_decide_eq_true (by first | (with_reducible assumption) | assumption); replace p36 := eq_true p36; replace q36 := eq_true q36; obtain ⟨Ao42, co42, eo42⟩ := Kd.R_slice HO179.out; subst eo42; obtain ⟨_, _, hraw40, _, _, hcc40, _⟩ := Kd.H_raw HH38.out (of_decide_eq_true (by first | (with_reducible assumption) | assumption)) (by have h_ : ((ji32) : Int) < ((x8_4.length : Int) : Int) := of_decide_eq_true (by first | (with_reducible assumption) | assumption); first | exact h_ | (have e_ := (HN38.out); omega) | simpa using h_); obtain ⟨_, hfr40⟩ := Kd.H_at HH38.out (of_decide_eq_true (by first | (with_reducible assumption) | assumption)) (by have h_ : ((ji32) : Int) < ((x8_4.length : Int) : Int) := of_decide_eq_true (by first | (with_reducible assumption) | assumption); first | exact h_ | (have e_ := (HN38.out); omega) | simpa using h_); have hx40_0 := hcc40 0 _ rfl; have hf40_0 := hfr40 0; (try simp only [Nat.add_zero] at hx40_0 hf40_0); (try rw [show ((Kd.slice 3 (Kd.int .i64))).sz = 1 from rfl, Nat.mul_one] at hx40_0); (try rw [show ((Kd.slice 3 (Kd.int .i64))).sz = 1 from rfl, Nat.mul_one] at hf40_0); have HP40 := Kd.S_seg0 HH38.out (of_decide_eq_true (by first | (with_reducible assumption) | assumption)) (by have h_ : ((ji32) : Int) < ((x8_4.length : Int) : Int) := of_decide_eq_true (by first | (with_reducible assumption) | assumption); first | exact h_ | (have e_ := (HN38.out); omega) | simpa using h_) (seg := [.slice Ao42 y177.length co42]) (j := 0) (show 1 ≤ 1 from by decide) (x' := y177) (Kd.M_row HO179.out) (fun _ hk => hk); (try simp only [show ((Kd.slice 3 (Kd.int .i64))).sz = 1 from rfl, Nat.mul_one, Nat.add_zero] at HP40); clear hcc40 hfr40) | ((with_reducible refine gate_store (t := 25) (p := 86) rfl ?_); (try (rw [drewN_self w39]; generalize hq_ : World.drewN w39 _ = w39; have n0_ := Aside0.mk (Kd.S_at hq_ HO_8.out); have n1_ := Aside0.mk (below_at hq_ HB.out); clear hq_ HO_8 HB; have HO_8 := n0_; have HB := n1_; clear n0_ n1_; (try (obtain ⟨Ao42, co42, eo42⟩ := Kd.R_slice HO179.out)); (try (subst eo42)); (try (obtain ⟨_, _, hraw40, _, _, hcc40, _⟩ := Kd.H_raw HH38.out (of_decide_eq_true (by first | (with_reducible assumption) | assumption)) (by have h_ : ((ji32) : Int) < ((x8_4.length : Int) : Int) := of_decide_eq_true (by first | (with_reducible assumption) | assumption); first | exact h_ | (have e_ := (HN38.out); omega) | simpa using h_))); (try (obtain ⟨_, hfr40⟩ := Kd.H_at HH38.out (of_decide_eq_true (by first | (with_reducible assumption) | assumption)) (by have h_ : ((ji32) : Int) < ((x8_4.length : Int) : Int) := of_decide_eq_true (by first | (with_reducible assumption) | assumption); first | exact h_ | (have e_ := (HN38.out); omega) | simpa using h_))); (try (have hx40_0 := hcc40 0 _ rfl)); (try (have hf40_0 := hfr40 0)); (try (try simp only [Nat.add_zero] at hx40_0 hf40_0)); (try (try rw [show ((Kd.slice 3 (Kd.int .i64))).sz = 1 from rfl, Nat.mul_one] at hx40_0)); (try (try rw [show ((Kd.slice 3 (Kd.int .i64))).sz = 1 from rfl, Nat.mul_one] at hf40_0)); (try (have HP40 := Kd.S_seg0 HH38.out (of_decide_eq_true (by first | (with_reducible assumption) | assumption)) (by have h_ : ((ji32) : Int) < ((x8_4.length : Int) : Int) := of_decide_eq_true (by first | (with_reducible assumption) | assumption); first | exact h_ | (have e_ := (HN38.out); omega) | simpa using h_) (seg := [.slice Ao42 y177.length co42]) (j := 0) (show 1 ≤ 1 from by decide) (x' := y177) (Kd.M_row HO179.out) (fun _ hk => hk))); (try (try simp only [show ((Kd.slice 3 (Kd.int .i64))).sz = 1 from rfl, Nat.mul_one, Nat.add_zero] at HP40)); (try (clear hcc40 hfr40)))); refine store_event (t := 25) (p := 86) (v := ?vo_w41) (w1 := (w39.setCell ⟨go38, ((ji32) : Int).toNat, none⟩ (.slice Ao42 y177.length co42))) ?hg ?ho ?hn ?hr ?_; (case ho => rfl); (case hg => rfl); (case hn => rfl); (case hr => first | (go_simp; done) | (go_simp; rfl)); intro w41 hw; have hg : w39.grownBy w41 (some go38) := (by rw [hw]; exact HP40.2); have hp_ : Kd.S (Kd.slice 3 (Kd.int .i64)) 25 w41 w.heap.size (fun _ => True) (.slice (some ⟨go38, 0, none⟩) x8_4.length co37) y180 := (by rw [hw, Ny180.out]; exact HP40.1); clear HP40; have n0_ := Aside0.mk ((by rw [hw]; exact below_set HB.out GB38.out : Below w.heap.size w w41)); have n1_ := Aside0.mk (hp_); clear HB; clear HO179; clear HH38; have HB := n0_; have HO_8 := n1_; clear n0_ n1_; clear hg hw hp_ hraw40)); try go_wp2_with (first | ((with_reducible refine gate_builtin (b := .append) (xs := #[.tmp 82, .tmp 84]) rfl ?_); at_builtin; refine Kd.R_append (Kd.int .i64) (w0 := w) w.heap.size rfl (.tmp 82) (.tmp 84) 25 3 (.int .i64 0) 8 rfl Tryd.underlying25 info3 rfl (by decide) (by omega) (.slice A176_0 (rd_L1 x8_4 (ji32)).length c176_0) (rd_L1 x8_4 (ji32)) x55_3 [.int .i64 x55_3] (fun k_ => oki38 k_ ∨ ((fun _ => True)) k_ ∧ wr.heap.size ≤ k_) (fun _ => False) rfl rfl ?aP (fun _ hk => hk.elim) ?aF ?aO ?aB ?aS ?aL ?_; (case aP => exact rfl); (case aB => exact (by repeat (first | (with_reducible first | exact HB.out | apply below_alloc | apply pw_below_drewN | apply below_drew1) | exact HB.out))); (case aF => exact (fun k_ hk => .inr ⟨trivial, hk⟩)); (case aO => exact (by (with_reducible repeat (first | apply Kd.R_alloc | apply Kd.R_drewN | apply Kd.R_drew)); exact Kd.R_mono UU38.out (fun _ hk => .inl hk))); (case aS => exact (below_size (by repeat (first | (with_reducible first | exact HB.out | apply below_alloc | apply pw_below_drewN | apply below_drew1) | exact HB.out)))); (case aL => have := LMc35.out; omega); intro v178 w39 ho hb hg hat; rw [← Ny177.out] at ho; have n0_ := Aside0.mk (hb); have n1_ := Aside0.mk (Kd.H_grown (Kd.H_widen (by repeat (first | exact HH38.out | refine Kd.H_alloc ?_ _ | refine Kd.H_drewN ?_ _ | refine Kd.H_drew ?_))) hg (fun k_ e_ => .inl (UU38.out.1 k_ e_))); have n2_ := Aside0.mk (ho); clear HB; clear HH38; clear HO_8; clear UU38; clear HL176_0; have HB := n0_; have HH38 := n1_; have HO179 := n2_; clear n0_ n1_ n2_; clear ho hb hg hat; have p36 : 0 ≤ ((ji32) : Int) := of_decide_eq_true (by first | (with_reducible assumption) | assumption); have q36 : ((ji32) : Int) < ((x8_4.length : Int) : Int) := of_decide_eq_true (by first | (with_reducible assumption) | assumption); replace p36 := eq_true p36; replace q36 := eq_true q36; obtain ⟨Ao42, co42, eo42⟩ := Kd.R_slice HO179.out; subst eo42; obtain ⟨_, _, hraw40, _, _, hcc40, _⟩ := Kd.H_raw HH38.out (of_decide_eq_true (by first | (with_reducible assumption) | assumption)) (by have h_ : ((ji32) : Int) < ((x8_4.length : Int) : Int) := of_decide_eq_true (by first | (with_reducible assumption) | assumption); first | exact h_ | (have e_ := (HN38.out); omega) | simpa using h_); obtain ⟨_, hfr40⟩ := Kd.H_at HH38.out (of_decide_eq_true (by first | (with_reducible assumption) | assumption)) (by have h_ : ((ji32) : Int) < ((x8_4.length : Int) : Int) := of_decide_eq_true (by first | (with_reducible assumption) | assumption); first | exact h_ | (have e_ := (HN38.out); omega) | simpa using h_); have hx40_0 := hcc40 0 _ rfl; have hf40_0 := hfr40 0; (try simp only [Nat.add_zero] at hx40_0 hf40_0); (try rw [show ((Kd.slice 3 (Kd.int .i64))).sz = 1 from rfl, Nat.mul_one] at hx40_0); (try rw [show ((Kd.slice 3 (Kd.int .i64))).sz = 1 from rfl, Nat.mul_one] at hf40_0); have HP40 := Kd.S_seg0 HH38.out (of_decide_eq_true (by first | (with_reducible assumption) | assumption)) (by have h_ : ((ji32) : Int) < ((x8_4.length : Int) : Int) := of_decide_eq_true (by first | (with_reducible assumption) | assumption); first | exact h_ | (have e_ := (HN38.out); omega) | simpa using h_) (seg := [.slice Ao42 y177.length co42]) (j := 0) (show 1 ≤ 1 from by decide) (x' := y177) (Kd.M_row HO179.out) (fun _ hk => hk); (try simp only [show ((Kd.slice 3 (Kd.int .i64))).sz = 1 from rfl, Nat.mul_one, Nat.add_zero] at HP40); clear hcc40 hfr40) | ((with_reducible refine gate_store (t := 25) (p := 86) rfl ?_); (try (rw [drewN_self w39]; generalize hq_ : World.drewN w39 _ = w39; have n0_ := Aside0.mk (Kd.S_at hq_ HO_8.out); have n1_ := Aside0.mk (below_at hq_ HB.out); clear hq_ HO_8 HB; have HO_8 := n0_; have HB := n1_; clear n0_ n1_; (try (obtain ⟨Ao42, co42, eo42⟩ := Kd.R_slice HO179.out)); (try (subst eo42)); (try (obtain ⟨_, _, hraw40, _, _, hcc40, _⟩ := Kd.H_raw HH38.out (of_decide_eq_true (by first | (with_reducible assumption) | assumption)) (by have h_ : ((ji32) : Int) < ((x8_4.length : Int) : Int) := of_decide_eq_true (by first | (with_reducible assumption) | assumption); first | exact h_ | (have e_ := (HN38.out); omega) | simpa using h_))); (try (obtain ⟨_, hfr40⟩ := Kd.H_at HH38.out (of_decide_eq_true (by first | (with_reducible assumption) | assumption)) (by have h_ : ((ji32) : Int) < ((x8_4.length : Int) : Int) := of_decide_eq_true (by first | (with_reducible assumption) | assumption); first | exact h_ | (have e_ := (HN38.out); omega) | simpa using h_))); (try (have hx40_0 := hcc40 0 _ rfl)); (try (have hf40_0 := hfr40 0)); (try (try simp only [Nat.add_zero] at hx40_0 hf40_0)); (try (try rw [show ((Kd.slice 3 (Kd.int .i64))).sz = 1 from rfl, Nat.mul_one] at hx40_0)); (try (try rw [show ((Kd.slice 3 (Kd.int .i64))).sz = 1 from rfl, Nat.mul_one] at hf40_0)); (try (have HP40 := Kd.S_seg0 HH38.out (of_decide_eq_true (by first | (with_reducible assumption) | assumption)) (by have h_ : ((ji32) : Int) < ((x8_4.length : Int) : Int) := of_decide_eq_true (by first | (with_reducible assumption) | assumption); first | exact h_ | (have e_ := (HN38.out); omega) | simpa using h_) (seg := [.slice Ao42 y177.length co42]) (j := 0) (show 1 ≤ 1 from by decide) (x' := y177) (Kd.M_row HO179.out) (fun _ hk => hk))); (try (try simp only [show ((Kd.slice 3 (Kd.int .i64))).sz = 1 from rfl, Nat.mul_one, Nat.add_zero] at HP40)); (try (clear hcc40 hfr40)))); refine store_event (t := 25) (p := 86) (v := ?vo_w41) (w1 := (w39.setCell ⟨go38, ((ji32) : Int).toNat, none⟩ (.slice Ao42 y177.length co42))) ?hg ?ho ?hn ?hr ?_; (case ho => rfl); (case hg => rfl); (case hn => rfl); (case hr => first | (go_simp; done) | (go_simp; rfl)); intro w41 hw; have hg : w39.grownBy w41 (some go38) := (by rw [hw]; exact HP40.2); have hp_ : Kd.S (Kd.slice 3 (Kd.int .i64)) 25 w41 w.heap.size (fun _ => True) (.slice (some ⟨go38, 0, none⟩) x8_4.length co37) y180 := (by rw [hw, Ny180.out]; exact HP40.1); clear HP40; have n0_ := Aside0.mk ((by rw [hw]; exact below_set HB.out GB38.out : Below w.heap.size w w41)); have n1_ := Aside0.mk (hp_); clear HB; clear HO179; clear HH38; have HB := n0_; have HO_8 := n1_; clear n0_ n1_; clear hg hw hp_ hraw40)))
                                    go_roundg k4
                                    case measure => have := HJ3.out; have := HJ24.out; have := HK3.out; have := HK4.out; omega
                                    case rel => exact ⟨(y180), (wrap64 (x59_4 + 1)), (by first | rfl | (simp; done) | (simp [*]; done)), H', ⟨by have := HJ3.out; have := HJ24.out; have := HK3.out; have := HK4.out; omega⟩, ⟨by (with_reducible repeat (first | apply Kd.S_alloc | apply Kd.S_drewN | apply Kd.S_drew)); first | exact HO_8.out | exact Kd.R_mono HO_8.out (fun k_ h_ => ne_own_len h_)⟩, ⟨by repeat (first | (with_reducible first | exact HB.out | apply below_alloc | apply pw_below_drewN | apply below_drew1) | exact HB.out)⟩⟩
                                  · rw [if_neg c35] at H
                                    exact absurd H (by simp)
                                · rw [if_neg c34] at H
                                  exact absurd H (by simp)
                              · rw [if_neg c33] at H
                                exact absurd H (by simp)
                          · rw [if_neg c30] at H
                            have c30b0 : decide (x59_4 < a2) = false := decide_eq_false c30
                            clear c30
                            have H' := Aside0.mk H
                            clear H
                            go_wp2
                            repeat (go_quiet (fail); try go_wp2)
                            go_roundg k4
                            case measure => have := HJ3.out; have := HJ24.out; have := HK3.out; have := HK4.out; omega
                            case rel => exact ⟨(x8_4), (wrap64 (x55_3 + 1)), (by first | rfl | (simp; done) | (simp [*]; done)), H', ⟨by have := HJ3.out; have := HJ24.out; have := HK3.out; have := HK4.out; omega⟩, ⟨by (with_reducible repeat (first | apply Kd.S_alloc | apply Kd.S_drewN | apply Kd.S_drew)); first | exact HO_8.out | exact Kd.R_mono HO_8.out (fun k_ h_ => ne_own_len h_)⟩, ⟨by repeat (first | (with_reducible first | exact HB.out | apply below_alloc | apply pw_below_drewN | apply below_drew1) | exact HB.out)⟩⟩
                    · rw [if_neg c29] at H
                      have c29b0 : decide (x55_3 < x9_24) = false := decide_eq_false c29
                      clear c29
                      simp only [Option.some.injEq, Prod.mk.injEq] at H
                      obtain ⟨rfl, rfl⟩ := H
                      go_wp2
                      repeat (go_quiet (fail); try go_wp2)
                      go_ret2
                      exact ⟨_, by first | rfl | (simp [errW_none, errW_some] <;> rfl) | (simp only [← hji22]; first | rfl | (simp [errW_none, errW_some] <;> rfl)) | (simp [*, errW_none, errW_some] <;> rfl), by (with_reducible repeat (first | apply Kd.S_alloc | apply Kd.S_drewN | apply Kd.S_drew)); exact HO_8.out, by repeat (first | (with_reducible first | exact HB.out | apply below_alloc | apply pw_below_drewN | apply below_drew1) | exact HB.out)⟩
          · rw [if_neg c24] at H
            exact absurd H (by simp)
        · rw [if_neg c23] at H
          exact absurd H (by simp)

end Go.Proofs.YtglajokjiphafaaDoor.P

namespace Go.Proofs.YtglajokjiphafaaDoor.P
open Go.RowKit Go.Proofs.YtglajokjiphafaaDoorW.PrintWords Go.Proofs.YtglajokjiphafaaDoorW.PrintLast Go.Proofs.YtglajokjiphafaaDoorW.PrintMore
attribute [local go_sem] max2_int min2_int max_two min_two max_three min_three max_four min_four   -- for this text's walks alone
set_option linter.unusedVariables false
set_option linter.unusedSimpArgs false

/-! ### neonwrightlaw05_three: function 41 -/
def neonwrightlaw05_three.f  : Option ((List (List Int))) := some (([(([0, 1] : List Int)), (([1, 2] : List Int)), (([0, 2] : List Int))] : List (List Int)))
set_option maxHeartbeats 8000000 in
set_option maxRecDepth 100000 in
theorem neonwrightlaw05_three.calls  (r : List (List Int)) (w : World) (h : neonwrightlaw05_three.f  = some r) :
    Calls Tryd.prog 41 #[] w fun e w' => ∃ v0_ : Value, e = .returned (v0_) ∧ Kd.N (Kd.slice 3 (Kd.int .i64)) 25 w' w.heap.size (fun k_ => (w.heap.size ≤ k_)) v0_ r ∧ Below w.heap.size w w' := by
  have HB := Aside0.mk (Below.refl w.heap.size w)
  have H : (some (([(([0, 1] : List Int)), (([1, 2] : List Int)), (([0, 2] : List Int))] : List (List Int)))) = some r := h
  clear h
  obtain ⟨y127, hy127⟩ : ∃ y_ : List Int, y_ = (([0, 1] : List Int)) := ⟨_, rfl⟩
  replace H : (some (([y127, (([1, 2] : List Int)), (([0, 2] : List Int))] : List (List Int)))) = some r := by first | (rw [hy127]; with_reducible exact H) | (have H2_ := (Option.bind_some _ _).symm.trans H; rw [hy127]; with_reducible exact H2_) | (have H2_ := (Option.bind_some _ _).symm.trans H; with_reducible exact H2_) | with_reducible exact H | (rw [hy127]; exact H) | exact H
  have Ny127 := Aside0.mk hy127
  clear hy127
  obtain ⟨y130, hy130⟩ : ∃ y_ : List Int, y_ = (([1, 2] : List Int)) := ⟨_, rfl⟩
  replace H : (some (([y127, y130, (([0, 2] : List Int))] : List (List Int)))) = some r := by first | (rw [hy130]; with_reducible exact H) | (have H2_ := (Option.bind_some _ _).symm.trans H; rw [hy130]; with_reducible exact H2_) | (have H2_ := (Option.bind_some _ _).symm.trans H; with_reducible exact H2_) | with_reducible exact H | (rw [hy130]; exact H) | exact H
  have Ny130 := Aside0.mk hy130
  clear hy130
  obtain ⟨y133, hy133⟩ : ∃ y_ : List Int, y_ = (([0, 2] : List Int)) := ⟨_, rfl⟩
  replace H : (some (([y127, y130, y133] : List (List Int)))) = some r := by first | (rw [hy133]; with_reducible exact H) | (have H2_ := (Option.bind_some _ _).symm.trans H; rw [hy133]; with_reducible exact H2_) | (have H2_ := (Option.bind_some _ _).symm.trans H; with_reducible exact H2_) | with_reducible exact H | (rw [hy133]; exact H) | exact H
  have Ny133 := Aside0.mk hy133
  clear hy133
  obtain ⟨y136, hy136⟩ : ∃ y_ : List (List Int), y_ = (([y127, y130, y133] : List (List Int))) := ⟨_, rfl⟩
  replace H : (some y136) = some r := by first | (rw [hy136]; with_reducible exact H) | (have H2_ := (Option.bind_some _ _).symm.trans H; rw [hy136]; with_reducible exact H2_) | (have H2_ := (Option.bind_some _ _).symm.trans H; with_reducible exact H2_) | with_reducible exact H | (rw [hy136]; exact H) | exact H
  have Ny136 := Aside0.mk hy136
  clear hy136
  obtain rfl := Option.some.inj H
  go_enter Tryd.func41, Tryd.ntmps41
  go_wp2_with (first | ((with_reducible refine gate_dst (N := 1) rfl ?_); refine Kd.R_lit (Kd.int .i64) _ 3 ?hg (N := 1) ?hd (xs := ([0, 1] : List Int)) (inner := [.int .i64 0, .int .i64 1]) (ok := fun _ => True) (okp := fun _ => True) ?hr ?hp (fun _ hk => hk) trivial (Below.refl _ _) (Nat.le_refl _) (by simp) ?_; (case hd => rfl); (case hg => rfl); (case hr => first | (go_simp; done) | (go_simp; rfl)); (case hp => exact (Reps.one (show Kd.M (Kd.int .i64) _ _ _ 0 [.int .i64 0] from rfl) (Reps.one (show Kd.M (Kd.int .i64) _ _ _ 1 [.int .i64 1] from rfl) (Reps.none _ _)))); intro v128 w1 ho2 hb hg_ hnew_; clear hg_ hnew_; (first | rw [← Ny127.out] at ho2 | (simp only [Int.reduceToNat] at ho2; rw [← Ny127.out] at ho2)); have n0_ := Aside0.mk (Kd.R_lower (Kd.R_newM (M := fun k_ => (w.heap.size ≤ k_)) ho2 (below_size (by repeat (first | (with_reducible first | exact HB.out | apply below_alloc | apply pw_below_drewN | apply below_drew1) | exact HB.out))) (fun k_ h_ => h_)) (below_size (by repeat (first | (with_reducible first | exact HB.out | apply below_alloc | apply pw_below_drewN | apply below_drew1) | exact HB.out)))); have n1_ := Aside0.mk (below_step (by repeat (first | (with_reducible first | exact HB.out | apply below_alloc | apply pw_below_drewN | apply below_drew1) | exact HB.out)) hb); clear HB; have HO129 := n0_; have HB := n1_; clear n0_ n1_; clear hb ho2) | ((with_reducible refine gate_dst (N := 2) rfl ?_); refine Kd.R_lit (Kd.int .i64) _ 3 ?hg (N := 2) ?hd (xs := ([1, 2] : List Int)) (inner := [.int .i64 1, .int .i64 2]) (ok := fun _ => True) (okp := fun _ => True) ?hr ?hp (fun _ hk => hk) trivial (Below.refl _ _) (Nat.le_refl _) (by simp) ?_; (case hd => rfl); (case hg => rfl); (case hr => first | (go_simp; done) | (go_simp; rfl)); (case hp => exact (Reps.one (show Kd.M (Kd.int .i64) _ _ _ 1 [.int .i64 1] from rfl) (Reps.one (show Kd.M (Kd.int .i64) _ _ _ 2 [.int .i64 2] from rfl) (Reps.none _ _)))); intro v131 w3 ho4 hb hg_ hnew_; clear hg_ hnew_; (first | rw [← Ny130.out] at ho4 | (simp only [Int.reduceToNat] at ho4; rw [← Ny130.out] at ho4)); have n0_ := Aside0.mk (Kd.R_elder' (by (with_reducible repeat (first | apply Kd.R_alloc | apply Kd.R_drewN | apply Kd.R_drew)); exact HO129.out) (Kd.R_base ho4) hb); have n1_ := Aside0.mk (Kd.R_lower (Kd.R_new' (Kd.R_newM (M := fun k_ => (w.heap.size ≤ k_)) ho4 (below_size (by repeat (first | (with_reducible first | exact HB.out | apply below_alloc | apply pw_below_drewN | apply below_drew1) | exact HB.out))) (fun k_ h_ => h_)) (Kd.R_lt (by (with_reducible repeat (first | apply Kd.R_alloc | apply Kd.R_drewN | apply Kd.R_drew)); exact HO129.out))) (below_size (by repeat (first | (with_reducible first | exact HB.out | apply below_alloc | apply pw_below_drewN | apply below_drew1) | exact HB.out)))); have n2_ := Aside0.mk (below_step (by repeat (first | (with_reducible first | exact HB.out | apply below_alloc | apply pw_below_drewN | apply below_drew1) | exact HB.out)) hb); clear HO129; clear HB; have HO129 := n0_; have HO132 := n1_; have HB := n2_; clear n0_ n1_ n2_; clear hb ho4) | ((with_reducible refine gate_dst (N := 3) rfl ?_); refine Kd.R_lit (Kd.int .i64) _ 3 ?hg (N := 3) ?hd (xs := ([0, 2] : List Int)) (inner := [.int .i64 0, .int .i64 2]) (ok := fun _ => True) (okp := fun _ => True) ?hr ?hp (fun _ hk => hk) trivial (Below.refl _ _) (Nat.le_refl _) (by simp) ?_; (case hd => rfl); (case hg => rfl); (case hr => first | (go_simp; done) | (go_simp; rfl)); (case hp => exact (Reps.one (show Kd.M (Kd.int .i64) _ _ _ 0 [.int .i64 0] from rfl) (Reps.one (show Kd.M (Kd.int .i64) _ _ _ 2 [.int .i64 2] from rfl) (Reps.none _ _)))); intro v134 w5 ho6 hb hg_ hnew_; clear hg_ hnew_; (first | rw [← Ny133.out] at ho6 | (simp only [Int.reduceToNat] at ho6; rw [← Ny133.out] at ho6)); have n0_ := Aside0.mk (Kd.R_elder' (by (with_reducible repeat (first | apply Kd.R_alloc | apply Kd.R_drewN | apply Kd.R_drew)); exact HO129.out) (Kd.R_base ho6) hb); have n1_ := Aside0.mk (Kd.R_elder' (by (with_reducible repeat (first | apply Kd.R_alloc | apply Kd.R_drewN | apply Kd.R_drew)); exact HO132.out) (Kd.R_base ho6) hb); have n2_ := Aside0.mk (Kd.R_lower (Kd.R_new' (Kd.R_new' (Kd.R_newM (M := fun k_ => (w.heap.size ≤ k_)) ho6 (below_size (by repeat (first | (with_reducible first | exact HB.out | apply below_alloc | apply pw_below_drewN | apply below_drew1) | exact HB.out))) (fun k_ h_ => h_)) (Kd.R_lt (by (with_reducible repeat (first | apply Kd.R_alloc | apply Kd.R_drewN | apply Kd.R_drew)); exact HO129.out))) (Kd.R_lt (by (with_reducible repeat (first | apply Kd.R_alloc | apply Kd.R_drewN | apply Kd.R_drew)); exact HO132.out))) (below_size (by repeat (first | (with_reducible first | exact HB.out | apply below_alloc | apply pw_below_drewN | apply below_drew1) | exact HB.out)))); have n3_ := Aside0.mk (below_step (by repeat (first | (with_reducible first | exact HB.out | apply below_alloc | apply pw_below_drewN | apply below_drew1) | exact HB.out)) hb); clear HO129; clear HO132; clear HB; have HO129 := n0_; have HO132 := n1_; have HO135 := n2_; have HB := n3_; clear n0_ n1_ n2_ n3_; clear hb ho6; obtain ⟨Ao7, co7, eo7⟩ := Kd.R_slice HO129.out; subst eo7; obtain ⟨Ao8, co8, eo8⟩ := Kd.R_slice HO132.out; subst eo8; obtain ⟨Ao9, co9, eo9⟩ := Kd.R_slice HO135.out; subst eo9) | ((with_reducible refine gate_dst (N := 4) rfl ?_); refine Kd.N_lit (Kd.slice 3 (Kd.int .i64)) _ 25 ?hg (N' := 4) ?hd (xs := ([y127, y130, y133] : List (List Int))) (inner := [.slice Ao7 y127.length co7, .slice Ao8 y130.length co8, .slice Ao9 y133.length co9]) (ok := (fun k_ => (w.heap.size ≤ k_))) (okp := (fun k_ => (w.heap.size ≤ k_))) ?hr ?hp (fun _ hk => hk) ((show ∀ k_, w5.heap.size ≤ k_ → (fun k_ => (w.heap.size ≤ k_)) k_ from fun k_ hk => (Nat.le_trans (below_size (by repeat (first | (with_reducible first | exact HB.out | apply below_alloc | apply pw_below_drewN | apply below_drew1) | exact HB.out))) hk)) _ (Nat.le_refl _)) (Below.refl _ _) (Nat.le_refl _) (by simp) ?_; (case hd => rfl); (case hg => rfl); (case hr => first | (go_simp; done) | (go_simp; rfl)); (case hp => exact (Reps.one (show Kd.FK (Kd.slice 3 (Kd.int .i64)) _ _ y127 [.slice Ao7 y127.length co7] from (Kd.FK_slice_mk (Kd.R_reads' (Kd.R_mono (ok' := (fun k_ => (w.heap.size ≤ k_))) (HO129.out) (fun k_ hk => hk.1.1.1))).2.1 (Kd.R_F (Kd.R_mono (ok' := (fun k_ => (w.heap.size ≤ k_))) (HO129.out) (fun k_ hk => hk.1.1.1))))) (Reps.one (show Kd.FK (Kd.slice 3 (Kd.int .i64)) _ _ y130 [.slice Ao8 y130.length co8] from (Kd.FK_slice_mk (Kd.R_reads' (Kd.R_mono (ok' := (fun k_ => (w.heap.size ≤ k_))) (HO132.out) (fun k_ hk => hk.1.1.1))).2.1 (Kd.R_F (Kd.R_mono (ok' := (fun k_ => (w.heap.size ≤ k_))) (HO132.out) (fun k_ hk => hk.1.1.1))))) (Reps.one (show Kd.FK (Kd.slice 3 (Kd.int .i64)) _ _ y133 [.slice Ao9 y133.length co9] from (Kd.FK_slice_mk (Kd.R_reads' (Kd.R_mono (ok' := (fun k_ => (w.heap.size ≤ k_))) (HO135.out) (fun k_ hk => hk.1.1.1))).2.1 (Kd.R_F (Kd.R_mono (ok' := (fun k_ => (w.heap.size ≤ k_))) (HO135.out) (fun k_ hk => hk.1.1.1))))) (Reps.none _ _))))); intro v137 w10 ho11 hb hg_ hnew_; clear hg_ hnew_; (first | rw [← Ny136.out] at ho11 | (simp only [Int.reduceToNat] at ho11; rw [← Ny136.out] at ho11)); have n0_ := Aside0.mk (Kd.N_lower ho11 (below_size (by repeat (first | (with_reducible first | exact HB.out | apply below_alloc | apply pw_below_drewN | apply below_drew1) | exact HB.out)))); have n1_ := Aside0.mk (below_step (by repeat (first | (with_reducible first | exact HB.out | apply below_alloc | apply pw_below_drewN | apply below_drew1) | exact HB.out)) hb); clear HB; clear HO129; clear HO132; clear HO135; have HO138 := n0_; have HB := n1_; clear n0_ n1_; clear hb ho11))
  go_ret
  exact ⟨_, by first | rfl | (simp [errW_none, errW_some] <;> rfl) | (simp [*, errW_none, errW_some] <;> rfl), by (with_reducible repeat (first | apply Kd.N_alloc | apply Kd.N_drewN | apply Kd.N_drew)); exact HO138.out, by repeat (first | (with_reducible first | exact HB.out | apply below_alloc | apply pw_below_drewN | apply below_drew1) | exact HB.out)⟩

end Go.Proofs.YtglajokjiphafaaDoor.P

namespace Go.Proofs.YtglajokjiphafaaDoor.P
open Go.RowKit Go.Proofs.YtglajokjiphafaaDoorW.PrintWords Go.Proofs.YtglajokjiphafaaDoorW.PrintLast Go.Proofs.YtglajokjiphafaaDoorW.PrintMore
attribute [local go_sem] max2_int min2_int max_two min_two max_three min_three max_four min_four   -- for this text's walks alone
set_option linter.unusedVariables false
set_option linter.unusedSimpArgs false

/-! ### neonwrightlaw05_alive: function 17 -/
def neonwrightlaw05_alive.f (k : Nat)  : Option (Bool) := (neonwrightlaw05_three.f).bind fun t139 => ((find_Hidden.f 3 t139 1).bind fun bt142 => ((neonwrightlaw05_three.f).bind fun t146 => ((find_Hidden.f 3 t146 2).bind fun bt149 => ((find_Fewest.f 3 1).bind fun bt153 => ((find_Kautz.f k 3 2 2).bind fun bt155 => (if bt142.2 = 0 then (if (bt142.1.length : Int) = 0 then (if bt149.2 = 0 then ((neonwrightlaw05_same.f k bt149.1 (([0, 1, 2] : List Int))).bind fun t162 => (if t162 = true then (if bt153.2 = 0 then (if bt153.1 = 2 then (if bt155.2 = 0 then (if (bt155.1.length : Int) = 6 then (if 3 < (bt155.1.length : Int) then ((neonwrightlaw05_same.f k (rd_L1 bt155.1 3) (([0, 5, 7] : List Int))).bind fun t167 => (some t167)) else (none)) else (some false)) else (some false)) else (some false)) else (some false)) else (some false))) else (some false)) else (some false)) else (some false)))))))
theorem neonwrightlaw05_alive.mono : ∀ k, LeO (neonwrightlaw05_alive.f k ) (neonwrightlaw05_alive.f (k + 1) ) := by
  intro  k
  unfold neonwrightlaw05_alive.f
  repeat' first
      | (with_reducible exact find_Kautz.mono _ _ _ _)
      | (with_reducible exact neonwrightlaw05_same.mono _ _ _)
      | (with_reducible exact LeO.refl _)
      | (with_reducible exact LeO.none _)
      | (with_reducible refine LeO.ite ?_ ?_)
      | (with_reducible refine LeO.bind ?_ (fun _ => ?_))
      | exact find_Kautz.mono _ _ _ _
      | exact neonwrightlaw05_same.mono _ _ _
      | exact LeO.none _
      | refine LeO.ite ?_ ?_
      | refine LeO.bind ?_ (fun _ => ?_)
set_option maxHeartbeats 8000000 in
set_option maxRecDepth 100000 in
theorem neonwrightlaw05_alive.calls1 (k : Nat)  (w : World) (hT : TabG w) (h : neonwrightlaw05_alive.f k  = some true) :
    Calls Tryd.prog 17 #[] w fun e w' => e = .returned (.bool true) ∧ Below w.heap.size w w' := by
  have HB := Aside0.mk (Below.refl w.heap.size w)
  have HTab := Aside0.mk hT
  clear hT
  have H : ((neonwrightlaw05_three.f).bind fun t139 => ((find_Hidden.f 3 t139 1).bind fun bt142 => ((neonwrightlaw05_three.f).bind fun t146 => ((find_Hidden.f 3 t146 2).bind fun bt149 => ((find_Fewest.f 3 1).bind fun bt153 => ((find_Kautz.f k 3 2 2).bind fun bt155 => (if bt142.2 = 0 then (if (bt142.1.length : Int) = 0 then (if bt149.2 = 0 then ((neonwrightlaw05_same.f k bt149.1 (([0, 1, 2] : List Int))).bind fun t162 => (if t162 = true then (if bt153.2 = 0 then (if bt153.1 = 2 then (if bt155.2 = 0 then (if (bt155.1.length : Int) = 6 then (if 3 < (bt155.1.length : Int) then ((neonwrightlaw05_same.f k (rd_L1 bt155.1 3) (([0, 5, 7] : List Int))).bind fun t167 => (some t167)) else (none)) else (some false)) else (some false)) else (some false)) else (some false)) else (some false))) else (some false)) else (some false)) else (some false)))))))) = some true := h
  clear h
  replace H := Option.bind_eq_some_iff.mp H
  obtain ⟨t139, A10, H⟩ := H
  replace H : ((find_Hidden.f 3 t139 1).bind fun bt142 => ((neonwrightlaw05_three.f).bind fun t146 => ((find_Hidden.f 3 t146 2).bind fun bt149 => ((find_Fewest.f 3 1).bind fun bt153 => ((find_Kautz.f k 3 2 2).bind fun bt155 => (if bt142.2 = 0 then (if (bt142.1.length : Int) = 0 then (if bt149.2 = 0 then ((neonwrightlaw05_same.f k bt149.1 (([0, 1, 2] : List Int))).bind fun t162 => (if t162 = true then (if bt153.2 = 0 then (if bt153.1 = 2 then (if bt155.2 = 0 then (if (bt155.1.length : Int) = 6 then (if 3 < (bt155.1.length : Int) then ((neonwrightlaw05_same.f k (rd_L1 bt155.1 3) (([0, 5, 7] : List Int))).bind fun t167 => (some t167)) else (none)) else (some false)) else (some false)) else (some false)) else (some false)) else (some false))) else (some false)) else (some false)) else (some false))))))) = some true := H
  have A1 := Aside0.mk A10
  clear A10
  replace H := Option.bind_eq_some_iff.mp H
  obtain ⟨⟨t142, t143⟩, A20, H⟩ := H
  replace H : ((neonwrightlaw05_three.f).bind fun t146 => ((find_Hidden.f 3 t146 2).bind fun bt149 => ((find_Fewest.f 3 1).bind fun bt153 => ((find_Kautz.f k 3 2 2).bind fun bt155 => (if t143 = 0 then (if (t142.length : Int) = 0 then (if bt149.2 = 0 then ((neonwrightlaw05_same.f k bt149.1 (([0, 1, 2] : List Int))).bind fun t162 => (if t162 = true then (if bt153.2 = 0 then (if bt153.1 = 2 then (if bt155.2 = 0 then (if (bt155.1.length : Int) = 6 then (if 3 < (bt155.1.length : Int) then ((neonwrightlaw05_same.f k (rd_L1 bt155.1 3) (([0, 5, 7] : List Int))).bind fun t167 => (some t167)) else (none)) else (some false)) else (some false)) else (some false)) else (some false)) else (some false))) else (some false)) else (some false)) else (some false)))))) = some true := H
  have A2 := Aside0.mk A20
  clear A20
  replace H := Option.bind_eq_some_iff.mp H
  obtain ⟨t146, A30, H⟩ := H
  replace H : ((find_Hidden.f 3 t146 2).bind fun bt149 => ((find_Fewest.f 3 1).bind fun bt153 => ((find_Kautz.f k 3 2 2).bind fun bt155 => (if t143 = 0 then (if (t142.length : Int) = 0 then (if bt149.2 = 0 then ((neonwrightlaw05_same.f k bt149.1 (([0, 1, 2] : List Int))).bind fun t162 => (if t162 = true then (if bt153.2 = 0 then (if bt153.1 = 2 then (if bt155.2 = 0 then (if (bt155.1.length : Int) = 6 then (if 3 < (bt155.1.length : Int) then ((neonwrightlaw05_same.f k (rd_L1 bt155.1 3) (([0, 5, 7] : List Int))).bind fun t167 => (some t167)) else (none)) else (some false)) else (some false)) else (some false)) else (some false)) else (some false))) else (some false)) else (some false)) else (some false))))) = some true := H
  have A3 := Aside0.mk A30
  clear A30
  replace H := Option.bind_eq_some_iff.mp H
  obtain ⟨⟨t149, t150⟩, A40, H⟩ := H
  replace H : ((find_Fewest.f 3 1).bind fun bt153 => ((find_Kautz.f k 3 2 2).bind fun bt155 => (if t143 = 0 then (if (t142.length : Int) = 0 then (if t150 = 0 then ((neonwrightlaw05_same.f k t149 (([0, 1, 2] : List Int))).bind fun t162 => (if t162 = true then (if bt153.2 = 0 then (if bt153.1 = 2 then (if bt155.2 = 0 then (if (bt155.1.length : Int) = 6 then (if 3 < (bt155.1.length : Int) then ((neonwrightlaw05_same.f k (rd_L1 bt155.1 3) (([0, 5, 7] : List Int))).bind fun t167 => (some t167)) else (none)) else (some false)) else (some false)) else (some false)) else (some false)) else (some false))) else (some false)) else (some false)) else (some false)))) = some true := H
  have A4 := Aside0.mk A40
  clear A40
  replace H := Option.bind_eq_some_iff.mp H
  obtain ⟨⟨t153, t154⟩, A50, H⟩ := H
  replace H : ((find_Kautz.f k 3 2 2).bind fun bt155 => (if t143 = 0 then (if (t142.length : Int) = 0 then (if t150 = 0 then ((neonwrightlaw05_same.f k t149 (([0, 1, 2] : List Int))).bind fun t162 => (if t162 = true then (if t154 = 0 then (if t153 = 2 then (if bt155.2 = 0 then (if (bt155.1.length : Int) = 6 then (if 3 < (bt155.1.length : Int) then ((neonwrightlaw05_same.f k (rd_L1 bt155.1 3) (([0, 5, 7] : List Int))).bind fun t167 => (some t167)) else (none)) else (some false)) else (some false)) else (some false)) else (some false)) else (some false))) else (some false)) else (some false)) else (some false))) = some true := H
  have A5 := Aside0.mk A50
  clear A50
  replace H := Option.bind_eq_some_iff.mp H
  obtain ⟨⟨t155, t156⟩, A60, H⟩ := H
  replace H : (if t143 = 0 then (if (t142.length : Int) = 0 then (if t150 = 0 then ((neonwrightlaw05_same.f k t149 (([0, 1, 2] : List Int))).bind fun t162 => (if t162 = true then (if t154 = 0 then (if t153 = 2 then (if t156 = 0 then (if (t155.length : Int) = 6 then (if 3 < (t155.length : Int) then ((neonwrightlaw05_same.f k (rd_L1 t155 3) (([0, 5, 7] : List Int))).bind fun t167 => (some t167)) else (none)) else (some false)) else (some false)) else (some false)) else (some false)) else (some false))) else (some false)) else (some false)) else (some false)) = some true := H
  have A6 := Aside0.mk A60
  clear A60
  by_cases c7 : t143 = 0
  · rw [if_pos c7] at H
    have c7b0 : (t143 == 0) = true := beq_iff_eq.mpr c7
    have c7b1 : (t143 != 0) = false := bne_eq_false_iff_eq.mpr c7
    clear c7
    by_cases c8 : (t142.length : Int) = 0
    · rw [if_pos c8] at H
      have c8b0 : ((t142.length : Int) == 0) = true := beq_iff_eq.mpr c8
      have c8b1 : ((t142.length : Int) != 0) = false := bne_eq_false_iff_eq.mpr c8
      clear c8
      by_cases c9 : t150 = 0
      · rw [if_pos c9] at H
        have c9b0 : (t150 == 0) = true := beq_iff_eq.mpr c9
        have c9b1 : (t150 != 0) = false := bne_eq_false_iff_eq.mpr c9
        clear c9
        obtain ⟨y159, hy159⟩ : ∃ y_ : List Int, y_ = (([0, 1, 2] : List Int)) := ⟨_, rfl⟩
        replace H : ((neonwrightlaw05_same.f k t149 y159).bind fun t162 => (if t162 = true then (if t154 = 0 then (if t153 = 2 then (if t156 = 0 then (if (t155.length : Int) = 6 then (if 3 < (t155.length : Int) then ((neonwrightlaw05_same.f k (rd_L1 t155 3) (([0, 5, 7] : List Int))).bind fun t167 => (some t167)) else (none)) else (some false)) else (some false)) else (some false)) else (some false)) else (some false))) = some true := by first | (rw [hy159]; with_reducible exact H) | (have H2_ := (Option.bind_some _ _).symm.trans H; rw [hy159]; with_reducible exact H2_) | (have H2_ := (Option.bind_some _ _).symm.trans H; with_reducible exact H2_) | with_reducible exact H | (rw [hy159]; exact H) | exact H
        have Ny159 := Aside0.mk hy159
        clear hy159
        replace H := Option.bind_eq_some_iff.mp H
        obtain ⟨t162, A100, H⟩ := H
        replace H : (if t162 = true then (if t154 = 0 then (if t153 = 2 then (if t156 = 0 then (if (t155.length : Int) = 6 then (if 3 < (t155.length : Int) then ((neonwrightlaw05_same.f k (rd_L1 t155 3) (([0, 5, 7] : List Int))).bind fun t167 => (some t167)) else (none)) else (some false)) else (some false)) else (some false)) else (some false)) else (some false)) = some true := H
        have A10 := Aside0.mk A100
        clear A100
        by_cases c11 : t162 = true
        · subst c11
          have H1 : (if t154 = 0 then (if t153 = 2 then (if t156 = 0 then (if (t155.length : Int) = 6 then (if 3 < (t155.length : Int) then ((neonwrightlaw05_same.f k (rd_L1 t155 3) (([0, 5, 7] : List Int))).bind fun t167 => (some t167)) else (none)) else (some false)) else (some false)) else (some false)) else (some false)) = some true := by rw [if_pos rfl] at H; exact H
          clear H
          have H := H1
          clear H1
          by_cases c12 : t154 = 0
          · rw [if_pos c12] at H
            have c12b0 : (t154 == 0) = true := beq_iff_eq.mpr c12
            have c12b1 : (t154 != 0) = false := bne_eq_false_iff_eq.mpr c12
            clear c12
            by_cases c13 : t153 = 2
            · rw [if_pos c13] at H
              have c13b0 : (t153 == 2) = true := beq_iff_eq.mpr c13
              have c13b1 : (t153 != 2) = false := bne_eq_false_iff_eq.mpr c13
              clear c13
              by_cases c14 : t156 = 0
              · rw [if_pos c14] at H
                have c14b0 : (t156 == 0) = true := beq_iff_eq.mpr c14
                have c14b1 : (t156 != 0) = false := bne_eq_false_iff_eq.mpr c14
                clear c14
                by_cases c15 : (t155.length : Int) = 6
                · rw [if_pos c15] at H
                  have c15b0 : ((t155.length : Int) == 6) = true := beq_iff_eq.mpr c15
                  have c15b1 : ((t155.length : Int) != 6) = false := bne_eq_false_iff_eq.mpr c15
                  clear c15
                  by_cases c16 : 3 < (t155.length : Int)
                  · rw [if_pos c16] at H
                    have c16b0 : decide (3 < (t155.length : Int)) = true := decide_eq_true c16
                    have c16b1 : decide (3 < t155.length) = true := decide_eq_true (by omega)
                    clear c16
                    obtain ⟨y164, hy164⟩ : ∃ y_ : List Int, y_ = (([0, 5, 7] : List Int)) := ⟨_, rfl⟩
                    replace H : ((neonwrightlaw05_same.f k (rd_L1 t155 3) y164).bind fun t167 => (some t167)) = some true := by first | (rw [hy164]; with_reducible exact H) | (have H2_ := (Option.bind_some _ _).symm.trans H; rw [hy164]; with_reducible exact H2_) | (have H2_ := (Option.bind_some _ _).symm.trans H; with_reducible exact H2_) | with_reducible exact H | (rw [hy164]; exact H) | exact H
                    have Ny164 := Aside0.mk hy164
                    clear hy164
                    replace H := Option.bind_eq_some_iff.mp H
                    obtain ⟨t167, A170, H⟩ := H
                    replace H : (some t167) = some true := H
                    have A17 := Aside0.mk A170
                    clear A170
                    obtain rfl := Option.some.inj H
                    go_enter Tryd.func17, Tryd.ntmps17
                    go_wp2_with (first | ((with_reducible refine gate_callee (f := 41) rfl ?_); refine goesL_ (some 10) rfl rfl Tryd.func41 (by kernel_rfl) rfl #[] rfl (by (try simp only [List.map_toArray, List.map_cons, List.map_nil]); first | done | rfl | (simp only [List.length_drop, List.length_take]; rfl)) ?_; (with_reducible refine (neonwrightlaw05_three.calls  t139 _ A1.out).mono ?_); rintro e w18 ⟨v140, rfl, ho0, hb⟩; refine ⟨_, rfl, ?_⟩; have n0_ := Aside0.mk (Kd.N_lower (Kd.N_mono (ok' := fun k_ => True) ho0 (fun k_ hk_ => trivial)) (below_size (by repeat (first | (with_reducible first | exact HB.out | apply below_alloc | apply pw_below_drewN | apply below_drew1) | exact HB.out)))); have n1_ := Aside0.mk (below_step (by repeat (first | (with_reducible first | exact HB.out | apply below_alloc | apply pw_below_drewN | apply below_drew1) | exact HB.out)) hb); clear HB; have HO141 := n0_; have HB := n1_; clear n0_ n1_; (try clear hb); (try clear hb2); (try clear hk); (try clear hi); (try clear ho0); obtain ⟨Ao19, co19, eo19⟩ := Kd.N_slice HO141.out; subst eo19) | ((with_reducible refine gate_callee (f := 18) rfl ?_); refine goesL_ (some 11) rfl rfl Tryd.func18 (by kernel_rfl) rfl #[.int .i64 3, .slice Ao19 t139.length co19, .int .i64 1] rfl (by (try simp only [List.map_toArray, List.map_cons, List.map_nil]); first | done | rfl | (simp only [List.length_drop, List.length_take]; rfl)) ?_; (with_reducible refine (find_Hidden.calls 3 _ _ t139 1 t142 t143 _ ?side1 ?side2 A2.out).mono ?_); (case side1 => repeat (first | exact (Kd.N_reads' HO141.out).2.2 | (with_reducible refine Kd.C_alloc ?_ _) | (with_reducible refine Kd.C_drewN ?_ _) | (with_reducible refine Kd.C_drew ?_))); (case side2 => exact (Kd.N_reads' HO141.out).2.1); rintro e w20 ⟨v144, rfl, ho0, hb⟩; refine ⟨_, rfl, ?_⟩; have n0_ := Aside0.mk (Kd.N_elder' (by (with_reducible repeat (first | apply Kd.N_alloc | apply Kd.N_drewN | apply Kd.N_drew)); exact HO141.out) (Kd.R_base ho0) hb); have n1_ := Aside0.mk (Kd.R_lower ho0 (below_size (by repeat (first | (with_reducible first | exact HB.out | apply below_alloc | apply pw_below_drewN | apply below_drew1) | exact HB.out)))); have n2_ := Aside0.mk (below_step (by repeat (first | (with_reducible first | exact HB.out | apply below_alloc | apply pw_below_drewN | apply below_drew1) | exact HB.out)) hb); clear HO141; clear HB; have HO141 := n0_; have HO145 := n1_; have HB := n2_; clear n0_ n1_ n2_; (try clear hb); (try clear hb2); (try clear hk); (try clear hi); (try clear ho0)) | ((with_reducible refine gate_callee (f := 41) rfl ?_); refine goesL_ (some 15) rfl rfl Tryd.func41 (by kernel_rfl) rfl #[] rfl (by (try simp only [List.map_toArray, List.map_cons, List.map_nil]); first | done | rfl | (simp only [List.length_drop, List.length_take]; rfl)) ?_; (with_reducible refine (neonwrightlaw05_three.calls  t146 _ A3.out).mono ?_); rintro e w21 ⟨v147, rfl, ho0, hb⟩; refine ⟨_, rfl, ?_⟩; have n0_ := Aside0.mk (Kd.N_elder' (by (with_reducible repeat (first | apply Kd.N_alloc | apply Kd.N_drewN | apply Kd.N_drew)); exact HO141.out) (Kd.N_base ho0) hb); have n1_ := Aside0.mk (Kd.R_below (by (with_reducible repeat (first | apply Kd.R_alloc | apply Kd.R_drewN | apply Kd.R_drew)); exact HO145.out) hb); have n2_ := Aside0.mk (Kd.N_lower (Kd.N_mono (ok' := fun k_ => some k_ ≠ (.slice Ao19 t139.length co19 : Value).ownBlock ∧ some k_ ≠ (v144 : Value).ownBlock) ho0 (fun k_ hk_ => ⟨(Kd.fresh' (Kd.N_lt (by (with_reducible repeat (first | apply Kd.N_alloc | apply Kd.N_drewN | apply Kd.N_drew)); exact HO141.out)) k_ hk_), (Kd.fresh' (Kd.R_lt (by (with_reducible repeat (first | apply Kd.R_alloc | apply Kd.R_drewN | apply Kd.R_drew)); exact HO145.out)) k_ hk_)⟩)) (below_size (by repeat (first | (with_reducible first | exact HB.out | apply below_alloc | apply pw_below_drewN | apply below_drew1) | exact HB.out)))); have n3_ := Aside0.mk (below_step (by repeat (first | (with_reducible first | exact HB.out | apply below_alloc | apply pw_below_drewN | apply below_drew1) | exact HB.out)) hb); clear HO141; clear HO145; clear HB; have HO141 := n0_; have HO145 := n1_; have HO148 := n2_; have HB := n3_; clear n0_ n1_ n2_ n3_; (try clear hb); (try clear hb2); (try clear hk); (try clear hi); (try clear ho0); obtain ⟨Ao22, co22, eo22⟩ := Kd.N_slice HO148.out; subst eo22) | ((with_reducible refine gate_callee (f := 18) rfl ?_); refine goesL_ (some 16) rfl rfl Tryd.func18 (by kernel_rfl) rfl #[.int .i64 3, .slice Ao22 t146.length co22, .int .i64 2] rfl (by (try simp only [List.map_toArray, List.map_cons, List.map_nil]); first | done | rfl | (simp only [List.length_drop, List.length_take]; rfl)) ?_; (with_reducible refine (find_Hidden.calls 3 _ _ t146 2 t149 t150 _ ?side1 ?side2 A4.out).mono ?_); (case side1 => repeat (first | exact (Kd.N_reads' HO148.out).2.2 | (with_reducible refine Kd.C_alloc ?_ _) | (with_reducible refine Kd.C_drewN ?_ _) | (with_reducible refine Kd.C_drew ?_))); (case side2 => exact (Kd.N_reads' HO148.out).2.1); rintro e w23 ⟨v151, rfl, ho0, hb⟩; refine ⟨_, rfl, ?_⟩; have n0_ := Aside0.mk (Kd.N_elder' (by (with_reducible repeat (first | apply Kd.N_alloc | apply Kd.N_drewN | apply Kd.N_drew)); exact HO141.out) (Kd.R_base ho0) hb); have n1_ := Aside0.mk (Kd.R_elder' (by (with_reducible repeat (first | apply Kd.R_alloc | apply Kd.R_drewN | apply Kd.R_drew)); exact HO145.out) (Kd.R_base ho0) hb); have n2_ := Aside0.mk (Kd.N_elder' (by (with_reducible repeat (first | apply Kd.N_alloc | apply Kd.N_drewN | apply Kd.N_drew)); exact HO148.out) (Kd.R_base ho0) hb); have n3_ := Aside0.mk (Kd.R_lower (Kd.R_new' ho0 (Kd.R_lt (by (with_reducible repeat (first | apply Kd.R_alloc | apply Kd.R_drewN | apply Kd.R_drew)); exact HO145.out))) (below_size (by repeat (first | (with_reducible first | exact HB.out | apply below_alloc | apply pw_below_drewN | apply below_drew1) | exact HB.out)))); have n4_ := Aside0.mk (below_step (by repeat (first | (with_reducible first | exact HB.out | apply below_alloc | apply pw_below_drewN | apply below_drew1) | exact HB.out)) hb); clear HO141; clear HO145; clear HO148; clear HB; have HO141 := n0_; have HO145 := n1_; have HO148 := n2_; have HO152 := n3_; have HB := n4_; clear n0_ n1_ n2_ n3_ n4_; (try clear hb); (try clear hb2); (try clear hk); (try clear hi); (try clear ho0)) | ((with_reducible refine gate_callee (f := 22) rfl ?_); refine goesL_ (some 20) rfl rfl Tryd.func22 (by kernel_rfl) rfl #[.int .i64 3, .int .i64 1] rfl (by (try simp only [List.map_toArray, List.map_cons, List.map_nil]); first | done | rfl | (simp only [List.length_drop, List.length_take]; rfl)) ?_; (with_reducible refine (find_Fewest.calls 3 1 t153 t154 _ (HTab.out.below (by repeat (first | (with_reducible first | exact HB.out | apply below_alloc | apply pw_below_drewN | apply below_drew1) | exact HB.out))) A5.out).mono ?_); rintro e w24 ⟨rfl, hb⟩; refine ⟨_, rfl, ?_⟩; have n0_ := Aside0.mk (Kd.N_below (by (with_reducible repeat (first | apply Kd.N_alloc | apply Kd.N_drewN | apply Kd.N_drew)); exact HO141.out) hb); have n1_ := Aside0.mk (Kd.R_below (by (with_reducible repeat (first | apply Kd.R_alloc | apply Kd.R_drewN | apply Kd.R_drew)); exact HO145.out) hb); have n2_ := Aside0.mk (Kd.N_below (by (with_reducible repeat (first | apply Kd.N_alloc | apply Kd.N_drewN | apply Kd.N_drew)); exact HO148.out) hb); have n3_ := Aside0.mk (Kd.R_below (by (with_reducible repeat (first | apply Kd.R_alloc | apply Kd.R_drewN | apply Kd.R_drew)); exact HO152.out) hb); have n4_ := Aside0.mk (below_step (by repeat (first | (with_reducible first | exact HB.out | apply below_alloc | apply pw_below_drewN | apply below_drew1) | exact HB.out)) hb); clear HO141; clear HO145; clear HO148; clear HO152; clear HB; have HO141 := n0_; have HO145 := n1_; have HO148 := n2_; have HO152 := n3_; have HB := n4_; clear n0_ n1_ n2_ n3_ n4_; (try clear hb); (try clear hb2); (try clear hk); (try clear hi)) | ((with_reducible refine gate_callee (f := 21) rfl ?_); refine goesL_ (some 24) rfl rfl Tryd.func21 (by kernel_rfl) rfl #[.int .i64 3, .int .i64 2, .int .i64 2] rfl (by (try simp only [List.map_toArray, List.map_cons, List.map_nil]); first | done | rfl | (simp only [List.length_drop, List.length_take]; rfl)) ?_; (with_reducible refine (find_Kautz.calls k 3 2 2 t155 t156 _ A6.out).mono ?_); rintro e w25 ⟨v157, rfl, ho0, hb⟩; refine ⟨_, rfl, ?_⟩; have n0_ := Aside0.mk (Kd.N_elder' (by (with_reducible repeat (first | apply Kd.N_alloc | apply Kd.N_drewN | apply Kd.N_drew)); exact HO141.out) (by first | exact Kd.N_base ho0 | exact Kd.N_base (Kd.S_N ho0) | exact Kd.S_base ho0) hb); have n1_ := Aside0.mk (Kd.R_below (by (with_reducible repeat (first | apply Kd.R_alloc | apply Kd.R_drewN | apply Kd.R_drew)); exact HO145.out) hb); have n2_ := Aside0.mk (Kd.N_elder' (by (with_reducible repeat (first | apply Kd.N_alloc | apply Kd.N_drewN | apply Kd.N_drew)); exact HO148.out) (by first | exact Kd.N_base ho0 | exact Kd.N_base (Kd.S_N ho0) | exact Kd.S_base ho0) hb); have n3_ := Aside0.mk (Kd.R_below (by (with_reducible repeat (first | apply Kd.R_alloc | apply Kd.R_drewN | apply Kd.R_drew)); exact HO152.out) hb); have n4_ := Aside0.mk (Kd.N_lower (Kd.N_mono (ok' := fun k_ => some k_ ≠ (.slice Ao19 t139.length co19 : Value).ownBlock ∧ some k_ ≠ (v144 : Value).ownBlock ∧ some k_ ≠ (.slice Ao22 t146.length co22 : Value).ownBlock ∧ some k_ ≠ (v151 : Value).ownBlock) (Kd.S_N (Kd.S_bound ho0)) (fun k_ hk_ => ⟨(Kd.fresh' (Kd.N_lt (by (with_reducible repeat (first | apply Kd.N_alloc | apply Kd.N_drewN | apply Kd.N_drew)); exact HO141.out)) k_ hk_.2.1), (Kd.fresh' (Kd.R_lt (by (with_reducible repeat (first | apply Kd.R_alloc | apply Kd.R_drewN | apply Kd.R_drew)); exact HO145.out)) k_ hk_.2.1), (Kd.fresh' (Kd.N_lt (by (with_reducible repeat (first | apply Kd.N_alloc | apply Kd.N_drewN | apply Kd.N_drew)); exact HO148.out)) k_ hk_.2.1), (Kd.fresh' (Kd.R_lt (by (with_reducible repeat (first | apply Kd.R_alloc | apply Kd.R_drewN | apply Kd.R_drew)); exact HO152.out)) k_ hk_.2.1)⟩)) (below_size (by repeat (first | (with_reducible first | exact HB.out | apply below_alloc | apply pw_below_drewN | apply below_drew1) | exact HB.out)))); have n5_ := Aside0.mk (below_step (by repeat (first | (with_reducible first | exact HB.out | apply below_alloc | apply pw_below_drewN | apply below_drew1) | exact HB.out)) hb); clear HO141; clear HO145; clear HO148; clear HO152; clear HB; have HO141 := n0_; have HO145 := n1_; have HO148 := n2_; have HO152 := n3_; have HO158 := n4_; have HB := n5_; clear n0_ n1_ n2_ n3_ n4_ n5_; (try clear hb); (try clear hb2); (try clear hk); (try clear hi); (try clear ho0); obtain ⟨Ao26, co26, eo26⟩ := Kd.R_slice HO145.out; subst eo26) | ((with_reducible refine gate_dst (N := 40) rfl ?_); (try (refine gate_guard (by rfl) ?_; dsimp only)); refine Kd.R_lit (Kd.int .i64) _ 3 ?hg (N := 40) ?hd (xs := ([0, 1, 2] : List Int)) (inner := [.int .i64 0, .int .i64 1, .int .i64 2]) (ok := fun _ => True) (okp := fun _ => True) ?hr ?hp (fun _ hk => hk) trivial (Below.refl _ _) (Nat.le_refl _) (by simp) ?_; (case hd => rfl); (case hg => rfl); (case hr => first | (go_simp; done) | (go_simp; rfl)); (case hp => exact (Reps.one (show Kd.M (Kd.int .i64) _ _ _ 0 [.int .i64 0] from rfl) (Reps.one (show Kd.M (Kd.int .i64) _ _ _ 1 [.int .i64 1] from rfl) (Reps.one (show Kd.M (Kd.int .i64) _ _ _ 2 [.int .i64 2] from rfl) (Reps.none _ _))))); intro v160 w27 ho28 hb hg_ hnew_; clear hg_ hnew_; (first | rw [← Ny159.out] at ho28 | (simp only [Int.reduceToNat] at ho28; rw [← Ny159.out] at ho28)); have n0_ := Aside0.mk (Kd.N_elder' (by (with_reducible repeat (first | apply Kd.N_alloc | apply Kd.N_drewN | apply Kd.N_drew)); exact HO141.out) (Kd.R_base ho28) hb); have n1_ := Aside0.mk (Kd.R_elder' (by (with_reducible repeat (first | apply Kd.R_alloc | apply Kd.R_drewN | apply Kd.R_drew)); exact HO145.out) (Kd.R_base ho28) hb); have n2_ := Aside0.mk (Kd.N_elder' (by (with_reducible repeat (first | apply Kd.N_alloc | apply Kd.N_drewN | apply Kd.N_drew)); exact HO148.out) (Kd.R_base ho28) hb); have n3_ := Aside0.mk (Kd.R_elder' (by (with_reducible repeat (first | apply Kd.R_alloc | apply Kd.R_drewN | apply Kd.R_drew)); exact HO152.out) (Kd.R_base ho28) hb); have n4_ := Aside0.mk (Kd.N_elder' (by (with_reducible repeat (first | apply Kd.N_alloc | apply Kd.N_drewN | apply Kd.N_drew)); exact HO158.out) (Kd.R_base ho28) hb); have n5_ := Aside0.mk (Kd.R_lower (Kd.R_new' (Kd.R_new' ho28 (Kd.R_lt (by (with_reducible repeat (first | apply Kd.R_alloc | apply Kd.R_drewN | apply Kd.R_drew)); exact HO145.out))) (Kd.R_lt (by (with_reducible repeat (first | apply Kd.R_alloc | apply Kd.R_drewN | apply Kd.R_drew)); exact HO152.out))) (below_size (by repeat (first | (with_reducible first | exact HB.out | apply below_alloc | apply pw_below_drewN | apply below_drew1) | exact HB.out)))); have n6_ := Aside0.mk (below_step (by repeat (first | (with_reducible first | exact HB.out | apply below_alloc | apply pw_below_drewN | apply below_drew1) | exact HB.out)) hb); clear HO141; clear HO145; clear HO148; clear HO152; clear HO158; clear HB; have HO141 := n0_; have HO145 := n1_; have HO148 := n2_; have HO152 := n3_; have HO158 := n4_; have HO161 := n5_; have HB := n6_; clear n0_ n1_ n2_ n3_ n4_ n5_ n6_; clear hb ho28; obtain ⟨Ao29, co29, eo29⟩ := Kd.R_slice HO152.out; subst eo29; obtain ⟨Ao30, co30, eo30⟩ := Kd.R_slice HO161.out; subst eo30) | (go_at_call 20; (with_reducible refine (neonwrightlaw05_same.calls k _ _ t149 _ _ y159 true _ ?side1 ?side2 ?side3 ?side4 A10.out).mono ?_); (case side1 => repeat (first | exact (Kd.R_reads' HO152.out).2.2 | (with_reducible refine Kd.C_alloc ?_ _) | (with_reducible refine Kd.C_drewN ?_ _) | (with_reducible refine Kd.C_drew ?_))); (case side2 => exact (Kd.R_reads' HO152.out).2.1); (case side3 => repeat (first | exact (Kd.R_reads' HO161.out).2.2 | (with_reducible refine Kd.C_alloc ?_ _) | (with_reducible refine Kd.C_drewN ?_ _) | (with_reducible refine Kd.C_drew ?_))); (case side4 => exact (Kd.R_reads' HO161.out).2.1); rintro e w' ⟨rfl, ⟨nd, rfl⟩⟩; obtain ⟨Ao31, co31, eo31⟩ := Kd.N_slice HO158.out; subst eo31; have p163 : 0 ≤ (3 : Int) := (by omega); have q163 : 3 < (t155.length : Int) := of_decide_eq_true (by first | (with_reducible assumption) | assumption); obtain ⟨ad163, A163_0, c163_0, e163, hx163_0, hl163_0, hi163_0⟩ := at_L1 (Kd.N_reads' HO158.out).2.2 3 p163 q163; cases e163; obtain ⟨ce163, hce163, hMe163, hcc163⟩ := Kd.N_get HO158.out [] 3 p163 (by first | exact q163 | exact of_decide_eq_true (by first | (with_reducible assumption) | assumption) | (have e_ := (Kd.N_reads' HO158.out).1; omega)); obtain ⟨ua163_0, uc163_0, rfl, ul163_0, ge163_0⟩ := Kd.FK_slice_open hMe163; have hv163_0 := hcc163 0 _ rfl; rw [Nat.add_zero, show ((Kd.slice 3 (Kd.int .i64))).sz = 1 from rfl, Nat.mul_one] at hv163_0; replace hv163_0 := Option.some.inj (hv163_0.symm.trans hx163_0); injection hv163_0 with hva_ hvn_ hvc_; rw [hva_] at ge163_0; rw [hvc_] at ul163_0; have HL163_0 := Aside0.mk (show Kd.V (Kd.int .i64) 3 _ w.heap.size _ _ (rd_L1 t155 3) from Kd.V_mk ul163_0 ge163_0); clear hva_ hvn_ hvc_ ge163_0 ul163_0; clear hcc163 hce163; (try simp only [show (3 : Int).toNat = 3 from rfl, Nat.reduceMul, Nat.reduceEqDiff, Go.Addr.add, ↓reduceIte] at hx163_0); have qi163 : (3 < t155.length) = True := eq_true (by omega); (try rw [show ((3 : Int)).toNat = 3 from rfl] at hx163_0); have HR163_0 := Aside0.mk hi163_0; have HC163_0 := Aside0.mk hl163_0; clear hi163_0 hl163_0; replace p163 := eq_true p163; replace q163 := eq_true q163) | ((with_reducible refine gate_dst (N := 64) rfl ?_); (try (refine gate_guard (by rfl) ?_; dsimp only)); refine Kd.R_lit (Kd.int .i64) _ 3 ?hg (N := 64) ?hd (xs := ([0, 5, 7] : List Int)) (inner := [.int .i64 0, .int .i64 5, .int .i64 7]) (ok := fun _ => True) (okp := fun _ => True) ?hr ?hp (fun _ hk => hk) trivial (Below.refl _ _) (Nat.le_refl _) (by simp) ?_; (case hd => rfl); (case hg => rfl); (case hr => first | (go_simp; done) | (go_simp; rfl)); (case hp => exact (Reps.one (show Kd.M (Kd.int .i64) _ _ _ 0 [.int .i64 0] from rfl) (Reps.one (show Kd.M (Kd.int .i64) _ _ _ 5 [.int .i64 5] from rfl) (Reps.one (show Kd.M (Kd.int .i64) _ _ _ 7 [.int .i64 7] from rfl) (Reps.none _ _))))); intro v165 w32 ho33 hb hg_ hnew_; clear hg_ hnew_; (first | rw [← Ny164.out] at ho33 | (simp only [Int.reduceToNat] at ho33; rw [← Ny164.out] at ho33)); have n0_ := Aside0.mk (Kd.N_elder' (by (with_reducible repeat (first | apply Kd.N_alloc | apply Kd.N_drewN | apply Kd.N_drew)); exact HO141.out) (Kd.R_base ho33) hb); have n1_ := Aside0.mk (Kd.R_elder' (by (with_reducible repeat (first | apply Kd.R_alloc | apply Kd.R_drewN | apply Kd.R_drew)); exact HO145.out) (Kd.R_base ho33) hb); have n2_ := Aside0.mk (Kd.N_elder' (by (with_reducible repeat (first | apply Kd.N_alloc | apply Kd.N_drewN | apply Kd.N_drew)); exact HO148.out) (Kd.R_base ho33) hb); have n3_ := Aside0.mk (Kd.R_elder' (by (with_reducible repeat (first | apply Kd.R_alloc | apply Kd.R_drewN | apply Kd.R_drew)); exact HO152.out) (Kd.R_base ho33) hb); have n4_ := Aside0.mk (Kd.N_elder' (by (with_reducible repeat (first | apply Kd.N_alloc | apply Kd.N_drewN | apply Kd.N_drew)); exact HO158.out) (Kd.R_base ho33) hb); have n5_ := Aside0.mk (Kd.R_elder' (by (with_reducible repeat (first | apply Kd.R_alloc | apply Kd.R_drewN | apply Kd.R_drew)); exact HO161.out) (Kd.R_base ho33) hb); have n6_ := Aside0.mk (Kd.V_elder' (by (with_reducible repeat (first | apply Kd.V_alloc | apply Kd.V_drewN | apply Kd.V_drew)); exact HL163_0.out) (Kd.R_base ho33) hb); have n7_ := Aside0.mk (Kd.R_lower (Kd.R_new' (Kd.R_new' (Kd.R_new' ho33 (Kd.R_lt (by (with_reducible repeat (first | apply Kd.R_alloc | apply Kd.R_drewN | apply Kd.R_drew)); exact HO145.out))) (Kd.R_lt (by (with_reducible repeat (first | apply Kd.R_alloc | apply Kd.R_drewN | apply Kd.R_drew)); exact HO152.out))) (Kd.R_lt (by (with_reducible repeat (first | apply Kd.R_alloc | apply Kd.R_drewN | apply Kd.R_drew)); exact HO161.out))) (below_size (by repeat (first | (with_reducible first | exact HB.out | apply below_alloc | apply pw_below_drewN | apply below_drew1) | exact HB.out)))); have n8_ := Aside0.mk (Kd.C_below (by repeat (first | (with_reducible exact HR163_0.out) | (with_reducible refine Kd.C_alloc ?_ _) | (with_reducible refine Kd.C_drewN ?_ _) | (with_reducible refine Kd.C_drew ?_) | exact HR163_0.out)) hb); have n9_ := Aside0.mk (below_step (by repeat (first | (with_reducible first | exact HB.out | apply below_alloc | apply pw_below_drewN | apply below_drew1) | exact HB.out)) hb); clear HO141; clear HO145; clear HO148; clear HO152; clear HO158; clear HO161; clear HL163_0; clear HR163_0; clear HB; have HO141 := n0_; have HO145 := n1_; have HO148 := n2_; have HO152 := n3_; have HO158 := n4_; have HO161 := n5_; have HL163_0 := n6_; have HO166 := n7_; have HR163_0 := n8_; have HB := n9_; clear n0_ n1_ n2_ n3_ n4_ n5_ n6_ n7_ n8_ n9_; clear hb ho33; obtain ⟨Ao34, co34, eo34⟩ := Kd.R_slice HO166.out; subst eo34) | (go_at_call 20; (with_reducible refine (neonwrightlaw05_same.calls k _ _ (rd_L1 t155 3) _ _ y164 true _ ?side1 ?side2 ?side3 ?side4 A17.out).mono ?_); (case side1 => repeat (first | exact (by repeat (first | (with_reducible exact HR163_0.out) | (with_reducible refine Kd.C_alloc ?_ _) | (with_reducible refine Kd.C_drewN ?_ _) | (with_reducible refine Kd.C_drew ?_) | exact HR163_0.out)) | (with_reducible refine Kd.C_alloc ?_ _) | (with_reducible refine Kd.C_drewN ?_ _) | (with_reducible refine Kd.C_drew ?_))); (case side2 => exact HC163_0.out); (case side3 => repeat (first | exact (Kd.R_reads' HO166.out).2.2 | (with_reducible refine Kd.C_alloc ?_ _) | (with_reducible refine Kd.C_drewN ?_ _) | (with_reducible refine Kd.C_drew ?_))); (case side4 => exact (Kd.R_reads' HO166.out).2.1); rintro e w' ⟨rfl, ⟨nd, rfl⟩⟩))
                    go_ret
                    exact ⟨by first | rfl | (simp [errW_none, errW_some] <;> rfl) | (simp [*, errW_none, errW_some] <;> rfl), by repeat (first | (with_reducible first | exact HB.out | apply below_alloc | apply pw_below_drewN | apply below_drew1) | exact HB.out)⟩
                  · rw [if_neg c16] at H
                    exact absurd H (by simp)
                · rw [if_neg c15] at H
                  have c15b0 : ((t155.length : Int) == 6) = false := beq_eq_false_iff_ne.mpr c15
                  have c15b1 : ((t155.length : Int) != 6) = true := bne_iff_ne.mpr c15
                  exact absurd H (by simp)
              · rw [if_neg c14] at H
                have c14b0 : (t156 == 0) = false := beq_eq_false_iff_ne.mpr c14
                have c14b1 : (t156 != 0) = true := bne_iff_ne.mpr c14
                exact absurd H (by simp)
            · rw [if_neg c13] at H
              have c13b0 : (t153 == 2) = false := beq_eq_false_iff_ne.mpr c13
              have c13b1 : (t153 != 2) = true := bne_iff_ne.mpr c13
              exact absurd H (by simp)
          · rw [if_neg c12] at H
            have c12b0 : (t154 == 0) = false := beq_eq_false_iff_ne.mpr c12
            have c12b1 : (t154 != 0) = true := bne_iff_ne.mpr c12
            exact absurd H (by simp)
        · replace c11 := Bool.eq_false_iff.mpr c11
          subst c11
          have H1 : (some false) = some true := by rw [if_neg (show ¬ (false = true) by decide)] at H; exact H
          clear H
          have H := H1
          clear H1
          exact absurd H (by simp)
      · rw [if_neg c9] at H
        have c9b0 : (t150 == 0) = false := beq_eq_false_iff_ne.mpr c9
        have c9b1 : (t150 != 0) = true := bne_iff_ne.mpr c9
        exact absurd H (by simp)
    · rw [if_neg c8] at H
      have c8b0 : ((t142.length : Int) == 0) = false := beq_eq_false_iff_ne.mpr c8
      have c8b1 : ((t142.length : Int) != 0) = true := bne_iff_ne.mpr c8
      have c8b2 : ¬ (t142 = []) := fun h_ => c8 (by rw [h_]; rfl)
      exact absurd H (by simp)
  · rw [if_neg c7] at H
    have c7b0 : (t143 == 0) = false := beq_eq_false_iff_ne.mpr c7
    have c7b1 : (t143 != 0) = true := bne_iff_ne.mpr c7
    exact absurd H (by simp)

theorem neonwrightlaw05_alive.tells : ∃ k, neonwrightlaw05_alive.f k = some true := ⟨100, by decide +kernel⟩
theorem neonwrightlaw05_alive.only (k : Nat) (r : Bool) (h : neonwrightlaw05_alive.f k = some r) : r = true := by
  obtain ⟨k', h'⟩ := neonwrightlaw05_alive.tells
  have h1 := at_rounds neonwrightlaw05_alive.mono (Nat.le_max_left k k') h
  have h2 := at_rounds neonwrightlaw05_alive.mono (Nat.le_max_right k k') h'
  rw [h1] at h2
  exact Option.some.inj h2
theorem neonwrightlaw05_alive.calls (k : Nat) (r : Bool) (w : World) (hT : TabG w) (h : neonwrightlaw05_alive.f k = some r) :
    Calls Tryd.prog 17 #[] w fun e w' => e = .returned (.bool r) ∧ Below w.heap.size w w' := by
  obtain rfl := neonwrightlaw05_alive.only k r h
  exact neonwrightlaw05_alive.calls1 k w hT h
end Go.Proofs.YtglajokjiphafaaDoor.P

set_option linter.unusedSimpArgs false
set_option linter.unusedVariables false
namespace Go.Proofs.YtglajokjiphafaaDoor.P
open Go.Lib Go.RowKit Go.ChangeShapes Go.WideShapes Go.ChangeAt Go.WideMaps Go.WideElems

theorem gTab : Tryd.prog.globalNamed "math/bits.deBruijn64tab" = some 0 := by kernel_rfl
theorem tTab : (Tryd.prog.globals[0]?).map (·.type) = some 133 := by kernel_rfl
abbrev laidT : List (String × DataW Unit) := [("math/bits.deBruijn64tab", Rows.laid_math_bits_deBruijn64tab)]
theorem laid_tab {H : Type} : (Rows.laid_math_bits_deBruijn64tab : DataW H) = .agg (Lib.deBruijn64tab.map fun (k : Nat) => .lit (.int .u8 (k : Int))) := rfl
set_option maxRecDepth 100000 in
theorem of_laid {W : World} (h : laidMetH Tryd.prog laidT W) : TabG W := by
  rw [MakeChecks.laidMetH_plain _ _ _ (by kernel_rfl)] at h
  obtain ⟨ps, ⟨g0, t0, cs0, f0, p0, q0, hg0, ht0, hv0, hd0, _, _⟩, _, _⟩ := h
  obtain rfl := Option.some.inj (gTab.symm.trans hg0)
  obtain rfl := Option.some.inj (tTab.symm.trans ht0)
  obtain ⟨xs, m, rfl, hx, hl, hn, hel⟩ := DataW.trod_array Tryd.underlying133 hd0
  have c1 : Tryd.prog.cellsOf 5 = 1 := by kernel_rfl
  rw [c1] at hel
  have hx1 : Lib.deBruijn64tab.map (fun (k : Nat) => (DataW.lit (.int .u8 (k : Int)) : DataW Unit)) = xs.map (·.1) := by
    have h1 := (Prod.mk.inj hx).1
    rw [laid_tab] at h1
    exact DataW.agg.inj h1
  intro j hj
  have hj64 : j < 64 := hj
  have hlt : j < xs.length := by omega
  clear hx
  generalize Lib.deBruijn64tab = tab at *
  have h1 := hel j hj64
  rw [List.getElem?_eq_getElem hlt] at h1
  obtain ⟨k, e1, e2, _⟩ := DataW.trod_int Tryd.underlying5 h1
  have h2 : (xs.map (·.1))[j]? = some (.lit (.int .u8 k)) := by
    rw [List.getElem?_map, List.getElem?_eq_getElem hlt, e2]; rfl
  rw [← hx1, List.getElem?_map, List.getElem?_eq_getElem hj] at h2
  have h3 : ((tab[j] : Nat) : Int) = k := by
    have h4 := Option.some.inj h2
    injection h4 with h4
    injection h4
  have h5 := World.var?_cell hg0 hv0 j
  rw [Nat.mul_one] at e1
  have h6 : cs0[j]? = some (.int .u8 k) := by
    have h7 : (cs0.toList.drop j)[0]? = some (.int .u8 k) := by
      have h8 : ((cs0.toList.drop j).take 1)[0]? = some (.int .u8 k) := by rw [e1]; rfl
      simpa using h8
    simpa using h7
  rw [h6] at h5
  rw [h5, ← h3]
  rw [List.getD_eq_getElem?_getD, List.getElem?_eq_getElem hj]
  rfl
end Go.Proofs.YtglajokjiphafaaDoor.P
