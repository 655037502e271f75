/- Texts of this claim, merged by a program (shake.py): what the last theorem reaches of RCirc, RRep, RBase, RRef, PureGateReplies. -/
import Derived.Test.YtelfalicickelaaKGR11
import Derived.Test.YtelfalicickelaaKGR13
import Derived.Test.YtelfalicickelaaKGR4
import Derived.Test.YtelfalicickelaaKGR12
import Derived.Test.YtelfalicickelaaKGR6
import Derived.Test.YtelfalicickelaaKGR18
import Derived.Test.YtelfalicickelaaKGR3
import Derived.Test.YtelfalicickelaaKGR9
import Derived.Test.YtelfalicickelaaKGR7
import Derived.Test.YtelfalicickelaaKGR8
import Derived.Test.YtelfalicickelaaKGR19
set_option linter.unusedSimpArgs false
set_option linter.unusedVariables false
namespace Go.Proofs.Ytelfalicickelaa.P
open Go.Lib Go.RowKit Go.Proofs.YtelfalicickelaaW.PrintWords Go.Proofs.YtelfalicickelaaW.PrintLast Go.Proofs.YtelfalicickelaaW.PrintMore Go.Proofs.Ytelfalicickelaa.Kit
theorem rcirc_l1 (N : Nat) (ls : List S40) (os : List Int) (hN : N ≤ 6) (hl : ls.length ≤ 16) (ho : os.length ≤ 4) : ∀ (d i k : Nat), os.length - i = d → i ≤ os.length → d < k →
    neonwrightref07_Circuit.l1 k (i : Int) (N : Int) ls os = some (!(os.drop i).any (badL (N + ls.length))) := by
  intro d
  induction d with
  | zero =>
    intro i k hd hi hk
    obtain ⟨k, rfl⟩ : ∃ q, k = q + 1 := ⟨k - 1, by omega⟩
    simp only [neonwrightref07_Circuit.l1]
    rw [if_neg (by omega), List.drop_eq_nil_of_le (by omega)]
    rfl
  | succ d ih =>
    intro i k hd hi hk
    obtain ⟨k, rfl⟩ : ∃ q, k = q + 1 := ⟨k - 1, by omega⟩
    have hil : i < os.length := by omega
    have hw : ∀ _ : Unit, wrap64 ((i : Int) + 1) = ((i + 1 : Nat) : Int) := fun _ => by rw [w64 (by omega) (by omega)]; omega
    have hw2 : ∀ _ : Unit, wrap64 ((N : Int) + (ls.length : Int)) = ((N + ls.length : Nat) : Int) := fun _ => by rw [w64 (by omega) (by omega)]; omega
    simp only [neonwrightref07_Circuit.l1, neonwrightref07_Lines.f, Option.bind_some]
    rw [if_pos (by omega), if_pos (by omega), rd_get _ _ hil, hw2 (), hw (), List.drop_eq_getElem_cons hil, List.any_cons]
    by_cases h1 : os[i] < 0
    · rw [if_pos h1]
      simp [badL, h1]
    · rw [if_neg h1]
      by_cases h2 : os[i] ≥ ((N + ls.length : Nat) : Int)
      · rw [if_pos h2]
        have : badL (N + ls.length) os[i] = true := by unfold badL; rw [decide_eq_true (p := ((N + ls.length : Nat) : Int) ≤ os[i]) h2, Bool.or_true]
        rw [this]; rfl
      · rw [if_neg h2, ih (i + 1) k (by omega) (by omega) (by omega)]
        have : badL (N + ls.length) os[i] = false := by unfold badL; rw [decide_eq_false h1, decide_eq_false (p := ((N + ls.length : Nat) : Int) ≤ os[i]) (by omega)]; rfl
        rw [this, Bool.false_or]
theorem rcirc_l0 (N : Nat) (ls : List S40) (os : List Int) (hN1 : 1 ≤ N) (hN : N ≤ 6) (hl : ls.length ≤ 16) (ho : os.length ≤ 4) : ∀ (d i k : Nat), ls.length - i = d → i ≤ ls.length → d + 6 < k →
    neonwrightref07_Circuit.l0 k (i : Int) (N : Int) ls os = some ((List.range' i d).all (fun j => gateOk N j (ls.getD j z40)) && !os.any (badL (N + ls.length))) := by
  intro d
  induction d with
  | zero =>
    intro i k hd hi hk
    obtain ⟨k, rfl⟩ : ∃ q, k = q + 1 := ⟨k - 1, by omega⟩
    simp only [neonwrightref07_Circuit.l0]
    rw [if_neg (by omega)]
    have := rcirc_l1 N ls os hN hl ho os.length 0 k (by omega) (by omega) (by omega)
    rw [List.drop_zero] at this
    refine this.trans ?_
    rfl
  | succ d ih =>
    intro i k hd hi hk
    obtain ⟨k, rfl⟩ : ∃ q, k = q + 1 := ⟨k - 1, by omega⟩
    have hil : i < ls.length := by omega
    have hw : ∀ _ : Unit, wrap64 ((i : Int) + 1) = ((i + 1 : Nat) : Int) := fun _ => by rw [w64 (by omega) (by omega)]; omega
    have hw2 : ∀ _ : Unit, wrap64 ((N : Int) + (i : Int)) = ((N + i : Nat) : Int) := fun _ => by rw [w64 (by omega) (by omega)]; omega
    have hrd : rd_T40 ls (i : Int) = ls.getD i z40 := by unfold rd_T40; rw [Int.toNat_natCast]
    simp only [neonwrightref07_Circuit.l0]
    rw [if_pos (by omega), if_pos (by omega), hrd, hw2 (), hw (), List.range'_succ, List.all_cons]
    have h1 := ih (i + 1) k (by omega) (by omega) (by omega)
    generalize ls.getD i z40 = s at *
    have hno : gateOk N i s = false → some false = some ((gateOk N i s && (List.range' (i + 1) d).all fun j => gateOk N j (ls.getD j z40)) && !os.any (badL (N + ls.length))) := fun h => by rw [h]; rfl
    have hyes : gateOk N i s = true → neonwrightref07_Circuit.l0 k ((i + 1 : Nat) : Int) (N : Int) ls os = some ((gateOk N i s && (List.range' (i + 1) d).all fun j => gateOk N j (ls.getD j z40)) && !os.any (badL (N + ls.length))) := fun h => by rw [h, Bool.true_and]; exact h1
    have hg : gateOk N i s = decide ((0 ≤ s.f0 ∧ s.f0 ≤ 5) ∧ (0 ≤ s.f1 ∧ s.f1 < ((N + i : Nat) : Int)) ∧ (0 ≤ s.f2 ∧ s.f2 < ((N + i : Nat) : Int)) ∧ (s.f0 = 5 → s.f2 = 0)) := by
      unfold gateOk readsL
      by_cases h5 : s.f0 = 5
      · rw [if_pos h5]
        rw [Bool.eq_iff_iff]
        simp [badL, h5] <;> omega
      · rw [if_neg h5]
        rw [Bool.eq_iff_iff]
        simp [badL, h5] <;> omega
    clear ih h1
    repeat' (split <;> first | (refine hno ?_; rw [hg]; exact decide_eq_false (by omega)) | skip)
    all_goals first
      | (refine hyes ?_; rw [hg]; exact decide_eq_true (by omega))
      | (refine hno ?_; rw [hg]; exact decide_eq_false (by omega))
theorem rCircuit_f (n : Int) (ls : List S40) (os : List Int) (k : Nat) (hk : 40 ≤ k) : neonwrightref07_Circuit.f k n ls os = some (okC n ls os) := by
  obtain ⟨k, rfl⟩ : ∃ q, k = q + 1 := ⟨k - 1, by omega⟩
  have hb : ∀ b, b = true → neonwrightref07_Circuit.j0 (k + 1) b n ls os = some false := fun b h => by simp only [neonwrightref07_Circuit.j0]; rw [if_pos h]
  by_cases hs : 1 ≤ n ∧ n ≤ 6 ∧ ls.length ≤ 16 ∧ 1 ≤ os.length ∧ os.length ≤ 4
  · obtain ⟨N, rfl⟩ := Int.eq_ofNat_of_zero_le (show 0 ≤ n by omega)
    unfold neonwrightref07_Circuit.f okC
    rw [if_neg (by omega), if_neg (by omega), if_neg (by omega), if_neg (by omega), decide_eq_true hs, Bool.true_and, Int.toNat_natCast]
    simp only [neonwrightref07_Circuit.j0]
    rw [if_neg (by simp; omega)]
    refine (rcirc_l0 N ls os (by omega) (by omega) (by omega) (by omega) ls.length 0 k (by omega) (by omega) (by omega)).trans ?_
    unfold gatesOk
    rw [List.range_eq_range']
  · have : okC n ls os = false := by unfold okC; rw [decide_eq_false hs]; rfl
    rw [this]
    unfold neonwrightref07_Circuit.f
    by_cases h1 : n < 1
    · rw [if_pos h1, hb true rfl]
    · rw [if_neg h1]
      by_cases h2 : n > 6
      · rw [if_pos h2, hb true rfl]
      · rw [if_neg h2]
        by_cases h3 : (ls.length : Int) > 16
        · rw [if_pos h3, hb true rfl]
        · rw [if_neg h3]
          by_cases h4 : (os.length : Int) < 1
          · rw [if_pos h4, hb true rfl]
          · rw [if_neg h4, hb _ (decide_eq_true (by omega))]
end Go.Proofs.Ytelfalicickelaa.P
set_option linter.unusedSimpArgs false
set_option linter.unusedVariables false
namespace Go.Proofs.Ytelfalicickelaa.P
open Go.Lib Go.RowKit Go.Proofs.YtelfalicickelaaW.PrintWords Go.Proofs.YtelfalicickelaaW.PrintLast Go.Proofs.YtelfalicickelaaW.PrintMore Go.Proofs.Ytelfalicickelaa.Kit
def bI (l : List Bool) : List Int := l.map fun b => ((b.toNat : Nat) : Int)
theorem bI_length (l : List Bool) : (bI l).length = l.length := List.length_map ..
theorem rd_bI (l : List Bool) (i : Nat) : rd (bI l) (i : Int) = (((l.getD i false).toNat : Nat) : Int) := by
  unfold rd bI
  rw [Int.toNat_natCast, List.getD_eq_getElem?_getD, List.getD_eq_getElem?_getD, List.getElem?_map]
  cases l[i]? <;> rfl
theorem rgate_f (k : Nat) (x y : Bool) (hk : k ≤ 5) : neonwrightref07_gate.f (k : Int) ((x.toNat : Nat) : Int) ((y.toNat : Nat) : Int) = some (((GT.gv k x y).toNat : Nat) : Int) := by
  have h : k = 0 ∨ k = 1 ∨ k = 2 ∨ k = 3 ∨ k = 4 ∨ k = 5 := by omega
  rcases h with rfl | rfl | rfl | rfl | rfl | rfl <;> cases x <;> cases y <;> decide +kernel
theorem rbit (V i : Nat) (hi : i ≤ 63) : Int.tmod (shr .i64 (V : Int) (i : Int)) 2 = (((V.testBit i).toNat : Nat) : Int) := by
  have h : shr .i64 (V : Int) (i : Int) = ((V / 2 ^ i : Nat) : Int) := by
    unfold shr
    have hb : IntKind.i64.bits = 64 := rfl
    rw [hb, Int.toNat_natCast, Nat.min_eq_left (by omega)]
    simp
  rw [h]
  have h2 : Int.tmod ((V / 2 ^ i : Nat) : Int) 2 = ((V / 2 ^ i % 2 : Nat) : Int) := rfl
  rw [h2, Nat.testBit_eq_decide_div_mod_eq]
  have := Nat.mod_lt (V / 2 ^ i) (show 0 < 2 by decide)
  by_cases h3 : V / 2 ^ i % 2 = 1
  · rw [h3]; rfl
  · have h4 : V / 2 ^ i % 2 = 0 := by omega
    rw [h4]; rfl
def lineOf : Option Nat → Int
  | none => -1
  | some f => ((f / 2 : Nat) : Int)
def atOf : Option Nat → Int
  | none => 0
  | some f => ((f % 2 : Nat) : Int)
theorem put_ref (F : Option Nat) (i : Nat) (x : Bool) : (((GT.put F i x).toNat : Nat) : Int) = if lineOf F = (i : Int) then atOf F else ((x.toNat : Nat) : Int) := by
  cases F with
  | none => rw [if_neg (by show ¬ ((-1 : Int) = (i : Int)); omega)]; rfl
  | some f =>
    by_cases h : f / 2 = i
    · rw [GT.put_pos x h, if_pos (by show ((f / 2 : Nat) : Int) = _; omega)]
      have h2 : f % 2 = 0 ∨ f % 2 = 1 := by omega
      show _ = ((f % 2 : Nat) : Int)
      rcases h2 with h2 | h2 <;> rw [h2] <;> rfl
    · rw [GT.put_neg x h, if_neg (by show ¬ (((f / 2 : Nat) : Int) = _); omega)]
theorem take_snoc (l : List Bool) (i : Nat) (h : i < l.length) : bI (l.take (i + 1)) = bI (l.take i) ++ [(((l.getD i false).toNat : Nat) : Int)] := by
  rw [List.take_succ_eq_append_getElem h]
  unfold bI
  rw [List.map_append, List.map_cons, List.map_nil, List.getD_eq_getElem?_getD, List.getElem?_eq_getElem h]
  rfl
theorem take_getD (l : List Bool) (i j : Nat) (h : j < i) : (l.take i).getD j false = l.getD j false := by
  rw [List.getD_eq_getElem?_getD, List.getD_eq_getElem?_getD, List.getElem?_take_of_lt h]
theorem shl_bit (b : Bool) (i : Nat) (hi : i ≤ 3) : shl .i64 ((b.toNat : Nat) : Int) (i : Int) = ((b.toNat * 2 ^ i : Nat) : Int) := by
  have h : i = 0 ∨ i = 1 ∨ i = 2 ∨ i = 3 := by omega
  rcases h with rfl | rfl | rfl | rfl <;> cases b <;> decide +kernel
theorem rrep_l1 (N : Nat) (ls : List S40) (os : List Int) (vs : List Bool) (ho : os.length ≤ 4) (hos : ∀ j (h : j < os.length), 0 ≤ os[j] ∧ os[j] < (vs.length : Int)) : ∀ (d i k : Nat), os.length - i = d → i ≤ os.length → d < k →
    neonwrightref07_reply.l1 k (bI vs) ((GT.num ((os.take i).map fun o => vs.getD o.toNat false) : Nat) : Int) (i : Int) (N : Int) ls os = some ((GT.num (os.map fun o => vs.getD o.toNat false) : Nat) : Int) := by
  intro d
  induction d with
  | zero =>
    intro i k hd hi hk
    obtain ⟨k, rfl⟩ : ∃ q, k = q + 1 := ⟨k - 1, by omega⟩
    simp only [neonwrightref07_reply.l1]
    rw [if_neg (by omega), List.take_of_length_le (by omega)]
  | succ d ih =>
    intro i k hd hi hk
    obtain ⟨k, rfl⟩ : ∃ q, k = q + 1 := ⟨k - 1, by omega⟩
    have hil : i < os.length := by omega
    have hw : ∀ _ : Unit, wrap64 ((i : Int) + 1) = ((i + 1 : Nat) : Int) := fun _ => by rw [w64 (by omega) (by omega)]; omega
    obtain ⟨h0, h1⟩ := hos i hil
    obtain ⟨o, ho'⟩ := Int.eq_ofNat_of_zero_le h0
    have hnl := GT.num_lt ((os.take (i + 1)).map fun o => vs.getD o.toNat false)
    have htk : (os.take (i + 1)).map (fun o => vs.getD o.toNat false) = (os.take i).map (fun o => vs.getD o.toNat false) ++ [vs.getD o false] := by
      rw [List.take_succ_eq_append_getElem hil, List.map_append, List.map_cons, List.map_nil, ho', Int.toNat_natCast]
    have hln : ((os.take i).map fun o => vs.getD o.toNat false).length = i := by rw [List.length_map, List.length_take]; omega
    have h2 := ih (i + 1) k (by omega) (by omega) (by omega)
    have hnum : GT.num ((os.take (i + 1)).map fun o => vs.getD o.toNat false) = GT.num ((os.take i).map fun o => vs.getD o.toNat false) + (vs.getD o false).toNat * 2 ^ i := by rw [htk, GT.num_append, hln]
    have hlt : GT.num ((os.take (i + 1)).map fun o => vs.getD o.toNat false) < 16 := by
      refine Nat.lt_of_lt_of_le hnl ?_
      rw [List.length_map, List.length_take, Nat.min_eq_left (by omega)]
      exact Nat.pow_le_pow_right (by decide) (show i + 1 ≤ 4 by omega)
    simp only [neonwrightref07_reply.l1]
    rw [if_pos (by omega), if_pos (by omega), rd_get _ _ hil, if_pos h0, bI_length, if_pos h1, hw (), ho', rd_bI, shl_bit _ _ (by omega)]
    have hs : ∀ _ : Unit, wrap64 (((GT.num ((os.take i).map fun o => vs.getD o.toNat false) : Nat) : Int) + (((vs.getD o false).toNat * 2 ^ i : Nat) : Int)) = ((GT.num ((os.take (i + 1)).map fun o => vs.getD o.toNat false) : Nat) : Int) := fun _ => by
      rw [w64 (by omega) (by omega), hnum]; omega
    rw [hs ()]
    exact h2
theorem rrep_l0 (N : Nat) (ls : List S40) (os : List Int) (hok : okC (N : Int) ls os = true) (F : Option Nat) (V : Nat) : ∀ (d i k : Nat), (N + ls.length) - i = d → i ≤ N + ls.length → d + 6 < k →
    neonwrightref07_reply.l0 k (V : Int) (bI ((GT.vals (toC N ls os) F V).take i)) (i : Int) (N : Int) ls os (lineOf F) (atOf F) = some ((GT.reply (toC N ls os) F V : Nat) : Int) := by
  have hs := okC_small hok
  have hc := okC_ok hok
  have hlen : (GT.vals (toC N ls os) F V).length = N + ls.length := by
    rw [GT.vals_length]
    show N + (ls.map toG).length = _
    rw [List.length_map]
  have hw2 : ∀ _ : Unit, wrap64 ((N : Int) + (ls.length : Int)) = ((N + ls.length : Nat) : Int) := fun _ => by rw [w64 (by omega) (by omega)]; omega
  intro d
  induction d with
  | zero =>
    intro i k hd hi hk
    obtain ⟨k, rfl⟩ : ∃ q, k = q + 1 := ⟨k - 1, by omega⟩
    rw [neonwrightref07_reply.l0, neonwrightref07_Lines.f, Option.bind_some]
    rw [hw2 (), if_neg (by omega), List.take_of_length_le (by omega)]
    have hos : ∀ j (h : j < os.length), 0 ≤ os[j] ∧ os[j] < ((GT.vals (toC N ls os) F V).length : Int) := fun j h => by
      rw [hlen]
      unfold okC at hok
      rw [Bool.and_eq_true, Bool.and_eq_true] at hok
      have h3 := hok.2.2
      rw [Bool.not_eq_true', List.any_eq_false] at h3
      have h4 := h3 os[j] (List.getElem_mem h)
      rw [Int.toNat_natCast] at h4
      unfold badL at h4
      simp at h4
      omega
    have e := rrep_l1 N ls os (GT.vals (toC N ls os) F V) (by omega) hos os.length 0 k (by omega) (by omega) (by omega)
    rw [List.take_zero, List.map_nil] at e
    have e2 : GT.reply (toC N ls os) F V = GT.num (os.map fun o => (GT.vals (toC N ls os) F V).getD o.toNat false) := by
      unfold GT.reply GT.outs
      rw [show (toC N ls os).os = os.map Int.toNat from rfl, List.map_map]
      rfl
    rw [e2]
    generalize GT.vals (toC N ls os) F V = vs at *
    exact e
  | succ d ih =>
    intro i k hd hi hk
    obtain ⟨k, rfl⟩ : ∃ q, k = q + 1 := ⟨k - 1, by omega⟩
    have hil : i < N + ls.length := by omega
    have hw : ∀ _ : Unit, wrap64 ((i : Int) + 1) = ((i + 1 : Nat) : Int) := fun _ => by rw [w64 (by omega) (by omega)]; omega
    have hx7 : (bI ((GT.vals (toC N ls os) F V).take i)).length = i := by rw [bI_length, List.length_take]; omega
    have h1 := ih (i + 1) k (by omega) (by omega) (by omega)
    rw [take_snoc _ _ (by omega)] at h1
    rw [neonwrightref07_reply.l0, neonwrightref07_Lines.f, Option.bind_some]
    rw [hw2 (), if_pos (by omega), hw ()]
    by_cases hin : i < N
    · rw [if_pos (by omega), if_pos (by omega), hx7, rbit V i (by omega)]
      have hv := GT.vals_in (toC N ls os) F V (show i < (toC N ls os).n from hin)
      rw [hv, put_ref] at h1
      by_cases hL : lineOf F = (i : Int)
      · rw [if_pos hL, if_pos (by omega)]
        rw [if_pos hL] at h1
        exact h1
      · rw [if_neg hL, if_pos (by omega)]
        rw [if_neg hL] at h1
        exact h1
    · obtain ⟨j, rfl⟩ : ∃ j, i = N + j := ⟨i - N, by omega⟩
      have hj : j < ls.length := by omega
      have hwj : ∀ _ : Unit, wrap64 (((N + j : Nat) : Int) - (N : Int)) = (j : Int) := fun _ => by rw [w64 (by omega) (by omega)]; omega
      have hrd : rd_T40 ls (j : Int) = ls[j] := by unfold rd_T40; rw [Int.toNat_natCast, List.getD_eq_getElem?_getD, List.getElem?_eq_getElem hj]; rfl
      have hgk := gatesOk_at (by unfold okC at hok; rw [Bool.and_eq_true, Bool.and_eq_true, Int.toNat_natCast] at hok; exact hok.2.1) hj
      have hjg : j < (toC N ls os).gs.length := by show j < (ls.map toG).length; rw [List.length_map]; exact hj
      have hgs : (toC N ls os).gs[j] = toG ls[j] := List.getElem_map toG
      have hv := GT.vals_gate hc F V hjg
      have hb := hc.g j hjg
      rw [hgs] at hv hb
      rw [show (toC N ls os).n = N from rfl] at hv hb
      rw [hv, put_ref] at h1
      have hf : 0 ≤ ls[j].f0 ∧ 0 ≤ ls[j].f1 ∧ 0 ≤ ls[j].f2 := by
        unfold gateOk at hgk
        rw [Bool.and_eq_true, Bool.and_eq_true, decide_eq_true_iff] at hgk
        obtain ⟨g1, g2, g3⟩ := hgk
        have g4 := readsL_ok (by simpa using g3)
        refine ⟨g1.1, g4.1.1, ?_⟩
        by_cases h5 : ls[j].f0 = 5
        · simp [h5] at g2; omega
        · exact (g4.2 h5).1
      rw [if_neg (by omega), hwj (), hrd]
      generalize ls[j] = s at *
      obtain ⟨f0, f1, f2⟩ := s
      simp only [toG] at hf hb h1 ⊢
      obtain ⟨a, rfl⟩ := Int.eq_ofNat_of_zero_le hf.1
      obtain ⟨b, rfl⟩ := Int.eq_ofNat_of_zero_le hf.2.1
      obtain ⟨c, rfl⟩ := Int.eq_ofNat_of_zero_le hf.2.2
      simp only [Int.toNat_natCast] at hb h1
      rw [if_pos (by omega), if_pos (by omega), if_pos (by omega), hx7, if_pos (by omega), if_pos (by omega), if_pos (by omega), rd_bI, rd_bI, take_getD _ _ _ hb.2.1, take_getD _ _ _ hb.2.2.1, rgate_f _ _ _ hb.1, Option.bind_some]
      by_cases hL : lineOf F = ((N + j : Nat) : Int)
      · rw [if_pos hL, if_pos (by omega)]
        rw [if_pos hL] at h1
        exact h1
      · rw [if_neg hL, if_pos (by omega)]
        rw [if_neg hL] at h1
        exact h1
theorem rreply_f (N : Nat) (ls : List S40) (os : List Int) (hok : okC (N : Int) ls os = true) (F : Option Nat) (V : Nat) (k : Nat) (hk : 40 ≤ k) :
    neonwrightref07_reply.f k (N : Int) ls os (lineOf F) (atOf F) (V : Int) = some ((GT.reply (toC N ls os) F V : Nat) : Int) := by
  have hs := okC_small hok
  exact rrep_l0 N ls os hok F V (N + ls.length) 0 k (by omega) (by omega) (by omega)
end Go.Proofs.Ytelfalicickelaa.P
set_option linter.unusedSimpArgs false
set_option linter.unusedVariables false
namespace Go.Proofs.Ytelfalicickelaa.P
open Go.Lib Go.RowKit Go.Proofs.YtelfalicickelaaW.PrintWords Go.Proofs.YtelfalicickelaaW.PrintLast Go.Proofs.YtelfalicickelaaW.PrintMore Go.Proofs.Ytelfalicickelaa.Kit
def isFew (ls : List S40) (os : List Int) : Bool := decide (ls.length ≤ 40) && decide (os.length ≤ 40)
theorem few_f (n : Int) (ls : List S40) (os : List Int) : neonwrightlaw07_few.f n ls os = some (isFew ls os) := by
  unfold neonwrightlaw07_few.f isFew
  by_cases h : ls.length ≤ 40
  · rw [if_pos (by omega), decide_eq_true h, Bool.true_and]
    congr 1
    by_cases h2 : os.length ≤ 40
    · rw [decide_eq_true h2, decide_eq_true (by omega)]
    · rw [decide_eq_false h2, decide_eq_false (by omega)]
  · rw [if_neg (by omega), decide_eq_false h, Bool.false_and]
theorem isFew_iff {ls : List S40} {os : List Int} : isFew ls os = true ↔ ls.length ≤ 40 ∧ os.length ≤ 40 := by
  unfold isFew; rw [Bool.and_eq_true, decide_eq_true_iff, decide_eq_true_iff]
theorem alive_f : neonwrightlaw07_alive.f = some true := rfl
theorem same_l0 (a b : List Int) (hl : a.length = b.length) (hs : a.length ≤ 1000) : ∀ (d i k : Nat), a.length - i = d → i ≤ a.length → d < k →
    neonwrightlaw07_same.l0 k a b (i : Int) = some (decide (a.drop i = b.drop i)) := by
  intro d
  induction d with
  | zero =>
    intro i k hd hi hk
    obtain ⟨k, rfl⟩ : ∃ q, k = q + 1 := ⟨k - 1, by omega⟩
    rw [neonwrightlaw07_same.l0, if_neg (by omega), List.drop_eq_nil_of_le (by omega), List.drop_eq_nil_of_le (by omega)]
    rfl
  | succ d ih =>
    intro i k hd hi hk
    obtain ⟨k, rfl⟩ : ∃ q, k = q + 1 := ⟨k - 1, by omega⟩
    have hw : wrap64 ((i : Int) + 1) = ((i + 1 : Nat) : Int) := by rw [w64 (by omega) (by omega)]; omega
    have ha : i < a.length := by omega
    have hb : i < b.length := by omega
    rw [neonwrightlaw07_same.l0, if_pos (by omega), if_pos (by omega), if_pos (by omega), rd_get _ _ ha, rd_get _ _ hb, List.drop_eq_getElem_cons ha, List.drop_eq_getElem_cons hb, hw]
    by_cases h : a[i] = b[i]
    · rw [if_pos h, ih (i + 1) k (by omega) (by omega) (by omega), h]
      congr 1
      by_cases h2 : a.drop (i + 1) = b.drop (i + 1)
      · rw [h2]; simp
      · rw [decide_eq_false h2, decide_eq_false (fun e => h2 (List.cons.inj e).2)]
    · rw [if_neg h, decide_eq_false (fun e => h (List.cons.inj e).1)]
theorem same_f (a b : List Int) (hs : a.length ≤ 1000) (k : Nat) (hk : a.length < k) : neonwrightlaw07_same.f k a b = some (decide (a = b)) := by
  unfold neonwrightlaw07_same.f
  by_cases h : a.length = b.length
  · rw [if_pos (by omega)]
    exact same_l0 a b h hs a.length 0 k (by omega) (by omega) (by omega)
  · rw [if_neg (by omega), decide_eq_false (fun e => h (congrArg List.length e))]
theorem vecOk_nat {N : Nat} {v : Int} : vecOk (N : Int) v ↔ 0 ≤ v ∧ v < ((2 ^ N : Nat) : Int) := by unfold vecOk; rw [Int.toNat_natCast]
theorem vec_f (N : Nat) (hN : N ≤ 6) (ls : List S40) (os : List Int) (v : Int) : neonwrightref07_Vector.f (N : Int) ls os v = some (decide (vecOk (N : Int) v)) := by
  unfold neonwrightref07_Vector.f
  by_cases h : 0 ≤ v
  · rw [if_pos h, if_pos (by omega), shl1n (n := N) (by omega)]
    congr 1
    by_cases h2 : v < ((2 ^ N : Nat) : Int)
    · rw [decide_eq_true h2, decide_eq_true (vecOk_nat.2 ⟨h, h2⟩)]
    · rw [decide_eq_false h2, decide_eq_false (fun e => h2 (vecOk_nat.1 e).2)]
  · rw [if_neg h, decide_eq_false (fun e => h (vecOk_nat.1 e).1)]
theorem lines_f (N : Nat) (hN : N ≤ 6) (ls : List S40) (hl : ls.length ≤ 100) (os : List Int) : neonwrightref07_Lines.f (N : Int) ls os = some ((N + ls.length : Nat) : Int) := by
  unfold neonwrightref07_Lines.f
  rw [w64 (by omega) (by omega)]
  congr 1
theorem stuck_f (N : Nat) (hN : N ≤ 6) (ls : List S40) (hl : ls.length ≤ 16) (os : List Int) (L a : Int) : neonwrightref07_IsStuck.f (N : Int) ls os L a = some (decide (stuckOk (N + ls.length) L a)) := by
  have hi : stuckOk (N + ls.length) L a ↔ 0 ≤ L ∧ L < ((N + ls.length : Nat) : Int) ∧ 0 ≤ a ∧ a ≤ 1 := Iff.rfl
  unfold neonwrightref07_IsStuck.f
  rw [lines_f N hN ls (by omega), Option.bind_some]
  by_cases h : 0 ≤ L
  · rw [if_pos h]
    by_cases h2 : L < ((N + ls.length : Nat) : Int)
    · rw [if_pos h2]
      by_cases h3 : a = 0
      · rw [if_pos h3, decide_eq_true (hi.2 (by omega))]
      · rw [if_neg h3]
        congr 1
        by_cases h4 : a = 1
        · rw [decide_eq_true (hi.2 (by omega)), h4]; rfl
        · rw [decide_eq_false (fun e => by have := hi.1 e; omega)]
          exact beq_eq_false_iff_ne.2 h4
    · rw [if_neg h2, decide_eq_false (fun e => by have := hi.1 e; omega)]
  · rw [if_neg h, decide_eq_false (fun e => by have := hi.1 e; omega)]
theorem none_f : neonwrightref07_none.f = some (lineOf none, atOf none) := rfl
theorem stuck_line {n : Nat} {L a : Int} (h : stuckOk n L a) : lineOf (some (2 * L + a).toNat) = L ∧ atOf (some (2 * L + a).toNat) = a := by
  unfold stuckOk at h
  constructor
  · show (((2 * L + a).toNat / 2 : Nat) : Int) = L
    omega
  · show (((2 * L + a).toNat % 2 : Nat) : Int) = a
    omega
theorem okC_nat {n : Int} {ls : List S40} {os : List Int} (h : okC n ls os = true) : ∃ N : Nat, n = (N : Int) := ⟨n.toNat, by have := okC_small h; omega⟩
end Go.Proofs.Ytelfalicickelaa.P
set_option linter.unusedSimpArgs false
set_option linter.unusedVariables false
namespace Go.Proofs.Ytelfalicickelaa.P
open Go.Lib Go.RowKit Go.Proofs.YtelfalicickelaaW.PrintWords Go.Proofs.YtelfalicickelaaW.PrintLast Go.Proofs.YtelfalicickelaaW.PrintMore Go.Proofs.Ytelfalicickelaa.Kit
theorem rReply_f (n : Int) (ls : List S40) (os : List Int) (v : Int) (k : Nat) (hk : 50 ≤ k) : neonwrightref07_Reply.f k n ls os v = gate_Reply.f n ls os v := by
  obtain ⟨k, rfl⟩ : ∃ q, k = q + 1 := ⟨k - 1, by omega⟩
  unfold neonwrightref07_Reply.f gate_Reply.f
  rw [rCircuit_f n ls os (k + 1) (by omega), Option.bind_some]
  by_cases h : okC n ls os = true
  · obtain ⟨N, rfl⟩ := okC_nat h
    have hs := okC_small h
    rw [if_pos h, vec_f N (by omega), Option.bind_some, neonwrightref07_Reply.j0]
    by_cases hv : vecOk (N : Int) v
    · obtain ⟨V, rfl⟩ : ∃ V : Nat, v = V := ⟨v.toNat, by have := hv.1; omega⟩
      rw [decide_eq_true hv, if_neg (by decide), none_f, Option.bind_some, if_pos ⟨h, hv⟩]
      dsimp only
      rw [Int.toNat_natCast, Int.toNat_natCast, rreply_f N ls os h none V k (by omega), Option.bind_some]
    · rw [decide_eq_false hv, if_pos (show (!false) = true from rfl), if_neg (fun e => hv e.2)]
  · rw [if_neg h, neonwrightref07_Reply.j0, if_pos rfl, if_neg (fun e => h e.1)]
theorem rFailed_f (n : Int) (ls : List S40) (os : List Int) (L a v : Int) (k : Nat) (hk : 50 ≤ k) : neonwrightref07_Failed.f k n ls os L a v = gate_Failed.f n ls os L a v := by
  unfold neonwrightref07_Failed.f gate_Failed.f
  rw [rCircuit_f n ls os k (by omega), Option.bind_some]
  by_cases h : okC n ls os = true
  · obtain ⟨N, rfl⟩ := okC_nat h
    have hs := okC_small h
    rw [if_pos h, stuck_f N (by omega) ls (by omega), Option.bind_some, Int.toNat_natCast]
    by_cases hst : stuckOk (N + ls.length) L a
    · rw [decide_eq_true hst, if_pos rfl, vec_f N (by omega), Option.bind_some]
      by_cases hv : vecOk (N : Int) v
      · obtain ⟨V, rfl⟩ : ∃ V : Nat, v = V := ⟨v.toNat, by have := hv.1; omega⟩
        have e := rreply_f N ls os h (some (2 * L + a).toNat) V k (by omega)
        obtain ⟨e1, e2⟩ := stuck_line hst
        rw [e1, e2] at e
        rw [decide_eq_true hv, if_pos rfl, e, Option.bind_some, if_pos ⟨h, hst, hv⟩, Int.toNat_natCast]
      · rw [decide_eq_false hv, if_neg (by decide), if_neg (fun e => hv e.2.2)]
    · rw [decide_eq_false hst, if_neg (by decide), if_neg (fun e => hst e.2.1)]
  · rw [if_neg h, if_neg (fun e => h e.1)]
end Go.Proofs.Ytelfalicickelaa.P
set_option linter.unusedSimpArgs false
set_option linter.unusedVariables false
namespace Go.Proofs.Ytelfalicickelaa.P
open Go.Lib Go.RowKit Go.Proofs.YtelfalicickelaaW.PrintWords Go.Proofs.YtelfalicickelaaW.PrintLast Go.Proofs.YtelfalicickelaaW.PrintMore Go.Proofs.Ytelfalicickelaa.Kit
theorem circuits_l0 (n n' : Int) (ls : List S40) (os os' : List Int) (hl : ls.length ≤ 1000) : ∀ (d i k : Nat), ls.length - i = d → i ≤ ls.length → d < k →
    neonwrightlaw07_circuits.l0 k (i : Int) n ls os n' ls os' = some true := by
  intro d
  induction d with
  | zero =>
    intro i k hd hi hk
    obtain ⟨k, rfl⟩ : ∃ q, k = q + 1 := ⟨k - 1, by omega⟩
    rw [neonwrightlaw07_circuits.l0, if_neg (by omega)]
  | succ d ih =>
    intro i k hd hi hk
    obtain ⟨k, rfl⟩ : ∃ q, k = q + 1 := ⟨k - 1, by omega⟩
    have hw : wrap64 ((i : Int) + 1) = ((i + 1 : Nat) : Int) := by rw [w64 (by omega) (by omega)]; omega
    rw [neonwrightlaw07_circuits.l0, if_pos (by omega), if_pos (by omega), if_pos (by omega), if_neg (by simp), hw]
    exact ih (i + 1) k (by omega) (by omega) (by omega)
theorem circuits_refl (n : Int) (ls : List S40) (os : List Int) (hl : ls.length ≤ 1000) (ho : os.length ≤ 1000) (k : Nat) (hk : 1010 ≤ k) : neonwrightlaw07_circuits.f k n ls os n ls os = some true := by
  obtain ⟨k, rfl⟩ : ∃ q, k = q + 1 := ⟨k - 1, by omega⟩
  unfold neonwrightlaw07_circuits.f
  rw [if_pos rfl, if_pos rfl, same_f os os ho (k + 1) (by omega), Option.bind_some, decide_eq_true rfl, neonwrightlaw07_circuits.j0, if_neg (by decide)]
  exact circuits_l0 n n ls os os hl ls.length 0 k (by omega) (by omega) (by omega)
theorem copied_f (n : Int) (ls : List S40) (os : List Int) (hl : ls.length ≤ 1000) (ho : os.length ≤ 1000) : neonwrightlaw07_copied.f n ls os = some (n, ls, os) := by
  unfold neonwrightlaw07_copied.f
  rw [if_pos (by simp; omega), if_pos (by simp; omega), List.nil_append, List.nil_append]
end Go.Proofs.Ytelfalicickelaa.P
namespace Go.Proofs.Ytelfalicickelaa.Pure
open Go.RowKit Go.Proofs.Ytelfalicickelaa.P Go.Proofs.YtelfalicickelaaW.PrintWords Go.Proofs.YtelfalicickelaaW.PrintLast Go.Proofs.YtelfalicickelaaW.PrintMore Go.Proofs.Ytelfalicickelaa.Kit
theorem GateReplies (n : Int) (ls : List S40) (os : List Int) (L a v : Int) (w0 : (Lit.int .i64 n).wf = true) (w2 : (Lit.int .i64 v).wf = true) : ∃ k, neonwrightlaw07_GateReplies.f k n ls os L a v = some true := by
  refine ⟨3001, ?_⟩
  unfold neonwrightlaw07_GateReplies.f
  rw [few_f, Option.bind_some]
  by_cases h : isFew ls os = true
  · obtain ⟨h1, h2⟩ := isFew_iff.1 h
    rw [if_pos h, copied_f n ls os (by omega) (by omega), Option.bind_some]
    dsimp only
    rw [rReply_f n ls os v 3001 (by omega)]
    obtain ⟨p, hp⟩ : ∃ p, gate_Reply.f n ls os v = some p := ⟨_, rfl⟩
    obtain ⟨q, hq⟩ : ∃ q, gate_Failed.f n ls os L a v = some q := ⟨_, rfl⟩
    rw [hp, Option.bind_some, Option.bind_some, if_pos rfl, show (3001 : Nat) = 3000 + 1 from rfl, neonwrightlaw07_GateReplies.j0, if_neg (by simp), hq, Option.bind_some, rFailed_f n ls os L a v 3000 (by omega), hq, Option.bind_some, if_pos rfl, if_pos rfl, circuits_refl n ls os (by omega) (by omega) 3000 (by omega), Option.bind_some, if_pos rfl, alive_f, Option.bind_some]
  · rw [if_neg h, alive_f, Option.bind_some]
end Go.Proofs.Ytelfalicickelaa.Pure
