/- Texts of this claim, merged by a program (shake.py): what the last theorem reaches of QLeanW, QSh0, QFewN, QFewest. -/
import Derived.Test.YtelfalicickelaaKGR13
set_option linter.unusedSimpArgs false
set_option linter.unusedVariables false
namespace Go.Proofs.Ytelfalicickelaa.P
open Go.Lib Go.RowKit Go.Proofs.YtelfalicickelaaW.PrintWords Go.Proofs.YtelfalicickelaaW.PrintLast Go.Proofs.YtelfalicickelaaW.PrintMore Go.Proofs.Ytelfalicickelaa.Kit
def andn (x y : Nat) : Nat := x ^^^ (x &&& y)
theorem testBit_andn (x y i : Nat) : (andn x y).testBit i = (x.testBit i && !y.testBit i) := by
  unfold andn
  rw [Nat.testBit_xor, Nat.testBit_and]
  cases x.testBit i <;> cases y.testBit i <;> rfl
theorem u64w0 {x : Nat} (h : x < 18446744073709551616) : IntKind.u64.wrap (x : Int) = (x : Int) := by
  rw [IntKind.wrap_u64]; omega
theorem andnu (x y : Nat) (hx : x < 18446744073709551616) (hy : y < 18446744073709551616) : Go.bits .andNot .u64 (x : Int) (y : Int) = ((andn x y : Nat) : Int) := by
  have hx' : x < 2 ^ 64 := by simpa using hx
  have hy' : y < 2 ^ 64 := by simpa using hy
  have hb : IntKind.u64.bits = 64 := rfl
  have he : ((BitVec.ofNat 64 x) &&& ~~~(BitVec.ofNat 64 y)).toNat = andn x y := by
    refine Nat.eq_of_testBit_eq fun i => ?_
    rw [testBit_andn, BitVec.toNat_and, Nat.testBit_and, BitVec.toNat_ofNat, Nat.mod_eq_of_lt hx']
    by_cases hi : i < 64
    · have h1 : ((~~~(BitVec.ofNat 64 y)).toNat).testBit i = !(y.testBit i) := by
        rw [BitVec.testBit_toNat, BitVec.getLsbD_not, ← BitVec.testBit_toNat, BitVec.toNat_ofNat, Nat.mod_eq_of_lt hy']
        simp [hi]
      rw [h1]
    · have h1 : x.testBit i = false := Nat.testBit_lt_two_pow (Nat.lt_of_lt_of_le hx' (Nat.pow_le_pow_right (by decide) (by omega)))
      rw [h1]; rfl
  have hlt : andn x y < 2 ^ 64 := Nat.xor_lt_two_pow hx' (Nat.and_lt_two_pow _ hy')
  simp only [Go.bits, BitVec.ofInt_natCast]
  rw [show (BitVec.ofNat IntKind.u64.bits x &&& ~~~BitVec.ofNat IntKind.u64.bits y).toNat = andn x y from he]
  exact u64w0 (by simpa using hlt)
theorem andn_lt {x y : Nat} (hx : x < 18446744073709551616) : andn x y < 18446744073709551616 := by
  have h1 : x < 2 ^ 64 := by simpa using hx
  have h2 : x &&& y < 2 ^ 64 := Nat.lt_of_le_of_lt Nat.and_le_left h1
  have := Nat.xor_lt_two_pow h1 h2
  simpa [andn] using this
def lessB (S : List Nat) (i j : Nat) : Bool := (j != i) && ((andn (S.getD j 0) (S.getD i 0) == 0) && ((S.getD j 0 != S.getD i 0) || decide (j < i)))
def needless (S : List Nat) (i : Nat) : Bool := (List.range S.length).any (lessB S i)
def leanFrom (S : List Nat) (i d : Nat) : List Nat := ((List.range' i d).filter fun i => !needless S i).map fun i => S.getD i 0
def leanN (S : List Nat) : List Nat := leanFrom S 0 S.length
theorem lean_l1 (S : List Nat) (h64 : W64 S) (h100 : S.length ≤ 100) (acc : List Int) (i : Nat) (hi : i < S.length) (hacc : acc.length ≤ 100) : ∀ (e j k : Nat) (fl : Bool), S.length - j = e → j ≤ S.length → e < k →
    gate_lean.l1 k (nI S) acc (i : Int) ((S.getD i 0 : Nat) : Int) fl (nI S) (S.length : Int) (i : Int) (nI S) (S.length : Int) (j : Int) = if (fl || (List.range' j e).any (lessB S i)) = true then gate_lean.l0 (k - e - 1) (nI S) acc (nI S) (S.length : Int) ((i + 1 : Nat) : Int) else gate_lean.l0 (k - e - 1) (nI S) (acc ++ [((S.getD i 0 : Nat) : Int)]) (nI S) (S.length : Int) ((i + 1 : Nat) : Int) := by
  intro e
  induction e with
  | zero =>
    intro j k fl he hj hk
    obtain ⟨k, rfl⟩ : ∃ q, k = q + 1 := ⟨k - 1, by omega⟩
    have hw : ∀ _ : Unit, wrap64 ((i : Int) + 1) = ((i + 1 : Nat) : Int) := fun _ => by rw [w64 (by omega) (by omega)]; omega
    simp only [gate_lean.l1]
    rw [if_neg (by omega), hw ()]
    cases fl with
    | true => simp
    | false =>
      rw [if_neg (by decide), if_pos (by omega)]
      simp
  | succ e ih =>
    intro j k fl he hj hk
    obtain ⟨k, rfl⟩ : ∃ q, k = q + 1 := ⟨k - 1, by omega⟩
    have hjl : j < S.length := by omega
    have hw : ∀ _ : Unit, wrap64 ((j : Int) + 1) = ((j + 1 : Nat) : Int) := fun _ => by rw [w64 (by omega) (by omega)]; omega
    simp only [gate_lean.l1]
    rw [if_pos (by omega), if_pos (by omega), nI_length, if_pos (by omega), hw ()]
    have hk2 : k + 1 - (e + 1) - 1 = k - e - 1 := by omega
    rw [hk2, List.range'_succ, List.any_cons]
    have h1 := fun b => ih (j + 1) k b (by omega) (by omega) (by omega)
    have hsj := h64 j
    have hsi := h64 i
    rw [rd_nI, andnu _ _ hsj hsi]
    cases fl with
    | true =>
      rw [if_pos rfl, h1 true]
      rw [Bool.true_or, Bool.true_or]
    | false =>
      rw [if_neg (by decide), Bool.false_or]
      by_cases hij : i = j
      · subst hij
        have hl : lessB S i i = false := by simp [lessB]
        rw [if_pos rfl, h1 false, hl, Bool.false_or]
      · rw [if_neg (by omega)]
        have hne : (j != i) = true := by simpa using (fun e : j = i => hij e.symm)
        by_cases hz : andn (S.getD j 0) (S.getD i 0) = 0
        · by_cases hxy : S.getD j 0 = S.getD i 0
          · have hl : lessB S i j = decide (j < i) := by
              unfold lessB
              rw [hne, hz, hxy]; simp
            rw [if_pos (by rw [hz]; rfl), if_pos (by rw [hxy]), h1, hl]
            have hd : decide ((j : Int) < (i : Int)) = decide (j < i) := by
              by_cases hlt : j < i
              · rw [decide_eq_true hlt, decide_eq_true (by omega)]
              · rw [decide_eq_false hlt, decide_eq_false (by omega)]
            rw [hd]
          · have hb : (S.getD j 0 != S.getD i 0) = true := by simpa using hxy
            have hl : lessB S i j = true := by
              unfold lessB
              rw [hne, hz, hb]; rfl
            rw [if_pos (by rw [hz]; rfl), if_neg (by omega), h1 true, hl, Bool.true_or]
        · have hb : (andn (S.getD j 0) (S.getD i 0) == 0) = false := by simpa using hz
          have hl : lessB S i j = false := by
            unfold lessB
            rw [hb, Bool.false_and, Bool.and_false]
          rw [if_neg (by omega), h1 false, hl, Bool.false_or]
theorem lean_l0 (S : List Nat) (h64 : W64 S) (h100 : S.length ≤ 100) : ∀ (d i k : Nat) (acc : List Int), S.length - i = d → i ≤ S.length → acc.length ≤ i → 103 * d + 1 ≤ k →
    gate_lean.l0 k (nI S) acc (nI S) (S.length : Int) (i : Int) = some (acc ++ nI (leanFrom S i d)) := by
  intro d
  induction d with
  | zero =>
    intro i k acc hd hi hacc hk
    obtain ⟨k, rfl⟩ : ∃ q, k = q + 1 := ⟨k - 1, by omega⟩
    simp only [gate_lean.l0]
    rw [if_neg (by omega)]
    simp [leanFrom, nI]
  | succ d ih =>
    intro i k acc hd hi hacc hk
    obtain ⟨k, rfl⟩ : ∃ q, k = q + 1 := ⟨k - 1, by omega⟩
    simp only [gate_lean.l0]
    rw [if_pos (by omega), if_pos (by omega), nI_length, if_pos (by omega), rd_nI]
    refine (lean_l1 S h64 h100 acc i (by omega) (by omega) S.length 0 k false (by omega) (by omega) (by omega)).trans ?_
    have hL : leanFrom S i (d + 1) = (if needless S i = true then leanFrom S (i + 1) d else S.getD i 0 :: leanFrom S (i + 1) d) := by
      unfold leanFrom
      rw [List.range'_succ, List.filter_cons]
      by_cases hn : needless S i = true
      · rw [if_pos hn, if_neg (by rw [hn]; decide)]
      · rw [if_neg hn, if_pos (by simpa using hn), List.map_cons]
    have hN : (false || (List.range' 0 S.length).any (lessB S i)) = needless S i := by
      unfold needless
      rw [Bool.false_or, List.range_eq_range']
    rw [hN, hL]
    by_cases hn : needless S i = true
    · rw [if_pos hn, if_pos hn]
      exact ih (i + 1) _ acc (by omega) (by omega) (by omega) (by omega)
    · rw [if_neg hn, if_neg hn, ih (i + 1) _ _ (by omega) (by omega) (by rw [List.length_append, List.length_singleton]; omega) (by omega)]
      simp [nI]
theorem lean_f (S : List Nat) (h64 : W64 S) (h100 : S.length ≤ 100) (k : Nat) (hk : 10400 ≤ k) : gate_lean.f k (nI S) = some (nI (leanN S)) := by
  unfold gate_lean.f
  rw [nI_length]
  have := lean_l0 S h64 h100 S.length 0 k [] (by omega) (by omega) (by simp) (by omega)
  rw [List.nil_append] at this
  exact this
theorem leanN_mem {S : List Nat} {s : Nat} (h : s ∈ leanN S) : s ∈ S := by
  obtain ⟨i, hi, rfl⟩ := List.mem_map.1 h
  have := List.mem_range'_1.1 (List.mem_filter.1 hi).1
  rw [List.getD_eq_getElem?_getD, List.getElem?_eq_getElem (by omega)]
  exact List.getElem_mem _
theorem leanN_len (S : List Nat) : (leanN S).length ≤ S.length := by
  unfold leanN leanFrom
  rw [List.length_map]
  exact Nat.le_trans (List.length_filter_le _ _) (by rw [List.length_range']; exact Nat.le_refl _)
theorem leanN_W64 {S : List Nat} (h : W64 S) : W64 (leanN S) := W64.of fun x hx => h.mem (leanN_mem hx)
end Go.Proofs.Ytelfalicickelaa.P
set_option linter.unusedSimpArgs false
set_option linter.unusedVariables false
namespace Go.Proofs.Ytelfalicickelaa.P
open Go.Lib Go.RowKit Go.Proofs.YtelfalicickelaaW.PrintWords Go.Proofs.YtelfalicickelaaW.PrintLast Go.Proofs.YtelfalicickelaaW.PrintMore Go.Proofs.Ytelfalicickelaa.Kit
def shownF (c : GT.C) : List Nat := whereN c (fun x => x != 0)
def shownW (c : GT.C) : List Nat := (shownF c).map (GT.shows c)
theorem shownF_len (N : Nat) (ls : List S40) (os : List Int) (h : N ≤ 6 ∧ ls.length ≤ 16) : (shownF (toC N ls os)).length ≤ 44 := by
  unfold shownF whereN
  refine Nat.le_trans (List.length_filter_le _ _) ?_
  rw [List.length_range, toC_lines]
  omega
theorem shownF_lt {N : Nat} {ls : List S40} {os : List Int} {f : Nat} (hf : f ∈ shownF (toC N ls os)) : f < 2 * (N + ls.length) := by
  unfold shownF whereN at hf
  have := (List.mem_filter.1 hf).1
  rw [List.mem_range, toC_lines] at this
  exact this
set_option maxHeartbeats 8000000
set_option maxRecDepth 100000
theorem shown_calls {w : World} {g N : Nat} {ls : List S40} {os : List Int} (hok : okC (N : Int) ls os = true) (hC : CircAt w g N ls os) :
    Calls Try.prog 60 #[.pointer (some ⟨g, 0, none⟩)] w fun e w' => ∃ v0_ v1_ : Value, e = .returned (.tuple #[v0_, v1_]) ∧ Kd.R (Kd.int .u64) 74 w' w.heap.size (fun _ => True) v0_ (nI (shownW (toC N ls os))) ∧ Kd.C (Kd.int .i64) w' (match v1_ with | .slice A _ _ => A | _ => none) (nI (shownF (toC N ls os))).length (nI (shownF (toC N ls os))) ∧ (∃ A c, v1_ = .slice A (nI (shownF (toC N ls os))).length c) ∧ Below w.heap.size w w' := by
  have hs := okC_small hok
  have hN6 : N ≤ 6 ∧ ls.length ≤ 16 := by omega
  have HS := Aside0.mk (fun W (hb : Below w.heap.size w W) f hf => shows_calls f hf hok (hC.keep hb))
  have HW := Aside0.mk (where_shown0 hok hC)
  have HLt := Aside0.mk (fun f => shows_lt64 hN6.1 ls os f)
  have hfl : ∀ f, f ∈ shownF (toC N ls os) → f ≤ 100 := fun f hf => by have := shownF_lt hf; omega
  have HFl := Aside0.mk hfl
  have HF44 := Aside0.mk (shownF_len N ls os hN6)
  rw [show whereN (toC N ls os) (fun x => x != 0) = shownF (toC N ls os) from rfl] at HW
  rw [show shownW (toC N ls os) = (shownF (toC N ls os)).map (GT.shows (toC N ls os)) from rfl]
  generalize shownF (toC N ls os) = fs at *
  generalize toC N ls os = cc at *
  have HB := Aside0.mk (Below.refl w.heap.size w)
  clear hs hok hC hN6 hfl
  go_enter Try.func60, Try.ntmps60
  go_wp2_with (first | (go_at_call 71; (with_reducible refine (HW.out).mono ?_); rintro e w1 ⟨v1, rfl, hR, hb⟩; obtain ⟨A1, c1, rfl⟩ := Kd.R_slice hR; have HR1 := Aside0.mk (Kd.R_reads' hR); have HB1 := Aside0.mk hb; clear hR hb))
  have hnl := nI_length fs
  have HNl := Aside0.mk hnl
  obtain ⟨n, hn⟩ : ∃ n, fs.length = n := ⟨_, rfl⟩
  have HNn := Aside0.mk hn
  rw [hn] at hnl
  have HNm := Aside0.mk hnl
  have HBw := Aside0.mk (Below.refl w1.heap.size w1)
  have HT0 := Aside0.mk (show (fs.take 0).map (GT.shows cc) = [] from rfl)
  rw [hnl]
  clear hn hnl
  go_loopw [4, 12] (fun v4 v12 w' => ∃ i : Nat, v12 = .int .i64 (i : Int) ∧ Aside0 (i ≤ n) ∧ Aside0 (Kd.R (Kd.int .u64) 74 w' w1.heap.size (fun _ => True) v4 (nI ((fs.take i).map (GT.shows cc)))) ∧ Aside0 (Below w1.heap.size w1 w')) (fun _ v _ => n - (intOf v).toNat)
  case atStart => exact ⟨0, rfl, ⟨Nat.zero_le _⟩, ⟨Kd.R_nil _ _ _ _ _⟩, HBw⟩
  case round =>
    clear HBw HT0
    obtain ⟨i, rfl, Hi, HR, HBw⟩ := hrel
    by_cases ct : (i : Int) < (n : Int)
    · have c1b : decide ((i : Int) < (n : Int)) = true := decide_eq_true ct
      have c1c : decide (i < n) = true := decide_eq_true (by omega)
      have hi : i < fs.length := by have := HNn.out; omega
      have Hct := Aside0.mk (show i < n by omega)
      have q1 := eq_true ct
      have q2 := eq_true (show i < n by omega)
      have q3 := eq_true (show (0 : Int) ≤ (i : Int) by omega)
      have r := Kd.C_below HR1.out.2.2 HBw.out
      rw [HNm.out] at r
      obtain ⟨ad, e3', hx⟩ := Kd.at_int r (i : Int) (by omega) ct
      subst e3'
      rw [rd_nI, Int.toNat_natCast, show fs.getD i 0 = fs[i] by simp [List.getD_eq_getElem?_getD, hi]] at hx
      have hSw := HS.out wr (HB1.out.trans (HBw.out.mono HB1.out.size)) fs[i] (HFl.out _ (List.getElem_mem hi))
      have htk : nI ((fs.take i).map (GT.shows cc)) ++ [((GT.shows cc fs[i] : Nat) : Int)] = nI ((fs.take (i + 1)).map (GT.shows cc)) := by
        rw [List.take_succ_eq_append_getElem hi, List.map_append, List.map_cons, List.map_nil, nI_snoc]
      have HTK := Aside0.mk htk
      have hlen : (nI ((fs.take i).map (GT.shows cc))).length < 17592186044416 := by rw [nI_length, List.length_map, List.length_take]; have := HF44.out; omega
      have HLen := Aside0.mk hlen
      have HSw := Aside0.mk hSw
      generalize GT.shows cc fs[i] = x at *
      generalize fs[i] = f at *
      have HBr := Aside0.mk (Below.refl wr.heap.size wr)
      clear ct r hi hSw htk hlen
      go_wp2_with (first | (go_at_call 74; (with_reducible refine (HSw.out).mono ?_); rintro e w4 ⟨rfl, hb⟩; have HB4 := Aside0.mk (HBw.out.trans (hb.mono HBw.out.size)); have HR4 := Aside0.mk (Kd.R_below HR.out hb); clear hb) | ((with_reducible refine gate_builtin (b := .append) (xs := #[.tmp 16, .tmp 20]) rfl ?_); at_builtin; refine Kd.R_append (Kd.int .u64) (w0 := w1) w1.heap.size rfl (.tmp 16) (.tmp 20) 72 74 (.int .u64 0) 8 rfl Try.underlying72 info74 rfl (by decide) (by omega) _ (nI ((fs.take i).map (GT.shows cc))) (x : Int) [.int .u64 (x : Int)] (fun _ => True) (fun _ => False) rfl rfl ?aP (fun _ hk => hk.elim) ?aF ?aO ?aB ?aS ?aL ?_; (case aP => exact rfl); (case aB => exact (by repeat (first | (with_reducible first | exact HB4.out | apply below_alloc | apply pw_below_drewN | apply below_drew1) | exact HB4.out))); (case aF => exact (fun _ _ => trivial)); (case aO => exact (by (with_reducible repeat (first | apply Kd.R_alloc | apply Kd.R_drewN | apply Kd.R_drew)); exact HR4.out)); (case aS => exact (below_size (by repeat (first | (with_reducible first | exact HB4.out | apply below_alloc | apply pw_below_drewN | apply below_drew1) | exact HB4.out)))); (case aL => have := HLen.out; omega); intro v243 w7 ho hb hg hat; rw [HTK.out] at ho; have HB9 := Aside0.mk (hb); have HR9 := Aside0.mk (ho); clear HB4; clear HR4; clear ho hb hg hat))
      go_roundw
      case rel => exact ⟨i + 1, by rw [w64 (by have := Hct.out; have := HF44.out; have := HNn.out; omega) (by have := Hct.out; have := HF44.out; have := HNn.out; omega)]; rfl, ⟨Hct.out⟩, HR9, HB9⟩
      case measure => rw [w64 (by have := Hct.out; have := HF44.out; have := HNn.out; omega) (by have := Hct.out; have := HF44.out; have := HNn.out; omega)]; have := Hct.out; simp [intOf]; omega
    · have c1b : decide ((i : Int) < (n : Int)) = false := decide_eq_false ct
      have c1c : decide (i < n) = false := decide_eq_false (by omega)
      have hal : fs.take i = fs := List.take_of_length_le (by have := HNn.out; omega)
      have HAl := Aside0.mk hal
      clear ct hal
      go_wp2
      go_ret2
      refine ⟨_, _, rfl, ?_, ?_, ⟨A1, c1, by rw [HNm.out]; rfl⟩, HB1.out.trans (HBw.out.mono HB1.out.size)⟩
      · have h := R_low HR.out HB1.out.size
        rw [HAl.out] at h
        exact h
      · exact Kd.C_below HR1.out.2.2 HBw.out
end Go.Proofs.Ytelfalicickelaa.P
set_option linter.unusedSimpArgs false
set_option linter.unusedVariables false
namespace Go.Proofs.Ytelfalicickelaa.P
open Go.Lib Go.RowKit Go.Proofs.YtelfalicickelaaW.PrintWords Go.Proofs.YtelfalicickelaaW.PrintLast Go.Proofs.YtelfalicickelaaW.PrintMore Go.Proofs.Ytelfalicickelaa.Kit
def aw (V : Nat) : Nat → Nat
  | 0 => 2 ^ V - 1
  | v + 1 => andn (aw V v) (2 ^ v)
theorem aw_lt {V : Nat} (hV : V ≤ 64) : ∀ v, aw V v < 18446744073709551616
  | 0 => by
    have := Nat.pow_le_pow_right (n := 2) (by decide) hV
    have h2 : 2 ^ 64 = 18446744073709551616 := by decide
    have := Nat.two_pow_pos V
    show 2 ^ V - 1 < _
    omega
  | v + 1 => andn_lt (aw_lt hV v)
theorem aw_bit (V u : Nat) : ∀ v, (aw V v).testBit u = decide (v ≤ u ∧ u < V)
  | 0 => by
    show (2 ^ V - 1).testBit u = _
    rw [Nat.testBit_two_pow_sub_one]
    simp
  | v + 1 => by
    show (andn (aw V v) (2 ^ v)).testBit u = _
    rw [testBit_andn, aw_bit V u v, Nat.testBit_two_pow]
    by_cases h1 : v ≤ u ∧ u < V
    · by_cases h2 : v = u
      · have h3 : ¬ (v + 1 ≤ u ∧ u < V) := by omega
        simp [h1, h2, h3]
      · have h3 : v + 1 ≤ u ∧ u < V := by omega
        simp [h1, h2, h3]
    · have h3 : ¬ (v + 1 ≤ u ∧ u < V) := by omega
      rw [decide_eq_false h1, decide_eq_false h3]; rfl
def canA (V v : Nat) (S : List Nat) (m : Nat) : Bool := GT.canP pickM (aw V v) m S
theorem canA_iff {V : Nat} (hV : V ≤ 64) (v : Nat) (S : List Nat) (m : Nat) : canA V v S m = true ↔ GT.Cov (fun u => v ≤ u ∧ u < V) S m := by
  unfold canA
  rw [GT.canP_iff (fun S a h => pickM_mem S a h) (by simpa using aw_lt hV v)]
  have he : (fun u => (aw V v).testBit u = true) = fun u => v ≤ u ∧ u < V := by
    funext u
    rw [aw_bit]
    exact propext ⟨fun h => of_decide_eq_true h, fun h => decide_eq_true h⟩
  rw [he]
def upTo (p : Nat → Bool) : Nat → Nat → Nat
  | 0, k => k
  | d + 1, k => if p k = true then k else upTo p d (k + 1)
theorem upTo_spec (p : Nat → Bool) : ∀ (d k : Nat), p (k + d) = true → p (upTo p d k) = true ∧ (∀ j, k ≤ j → j < upTo p d k → p j = false) ∧ upTo p d k ≤ k + d
  | 0, k, h => ⟨h, fun j h1 h2 => by unfold upTo at h2; omega, Nat.le_refl _⟩
  | d + 1, k, h => by
    unfold upTo
    by_cases hp : p k = true
    · rw [if_pos hp]
      exact ⟨hp, fun j h1 h2 => by omega, by omega⟩
    · rw [if_neg hp]
      obtain ⟨h1, h2, h3⟩ := upTo_spec p d (k + 1) (by rw [show k + 1 + d = k + (d + 1) by omega]; exact h)
      refine ⟨h1, fun j a b => ?_, by omega⟩
      by_cases he : j = k
      · rw [he]; simpa using hp
      · exact h2 j (by omega) b
theorem cov_len {V : Nat} : ∀ S : List Nat, (∀ s, s ∈ S → s ≠ 0 ∧ s < 2 ^ V) → GT.Cov (fun u => 0 ≤ u ∧ u < V) S S.length
  | [], _ => GT.cov_nil _ _
  | s :: S, h => by
    obtain ⟨vs, h1, h2, h3⟩ := cov_len S (fun t ht => h t (List.mem_cons_of_mem _ ht))
    obtain ⟨hs0, hsV⟩ := h s (List.mem_cons_self ..)
    obtain ⟨u, hu⟩ := Nat.exists_testBit_of_ne_zero hs0
    have huV : u < V := by
      apply Classical.byContradiction
      intro hc
      have := Nat.testBit_lt_two_pow (Nat.lt_of_lt_of_le hsV (Nat.pow_le_pow_right (by decide) (Nat.le_of_not_lt hc)))
      rw [this] at hu; cases hu
    refine ⟨u :: vs, by simp only [List.length_cons]; omega, fun w hw => ?_, fun t ht => ?_⟩
    · rcases List.mem_cons.1 hw with rfl | hw
      · exact ⟨Nat.zero_le _, huV⟩
      · exact h2 w hw
    · rcases List.mem_cons.1 ht with rfl | ht
      · exact ⟨u, List.mem_cons_self .., hu⟩
      · obtain ⟨v, hv, hb⟩ := h3 t ht
        exact ⟨v, List.mem_cons_of_mem _ hv, hb⟩
def fewM (V : Nat) (S : List Nat) : Nat := upTo (canA V 0 S) 44 0
theorem few_spec {V : Nat} (hV : V ≤ 64) {S : List Nat} (h : ∀ s, s ∈ S → s ≠ 0 ∧ s < 2 ^ V) (hl : S.length ≤ 44) : canA V 0 S (fewM V S) = true ∧ (∀ j, j < fewM V S → canA V 0 S j = false) ∧ fewM V S ≤ 44 ∧ GT.Least V 0 S (fewM V S) := by
  have h0 : canA V 0 S (0 + 44) = true := by
    rw [canA_iff hV]
    exact GT.Cov.mono (cov_len S h) (fun _ h => h) (by omega)
  obtain ⟨h1, h2, h3⟩ := upTo_spec (canA V 0 S) 44 0 h0
  refine ⟨h1, fun j hj => h2 j (Nat.zero_le _) hj, by unfold fewM; omega, (canA_iff hV 0 S _).1 h1, fun k hk => ?_⟩
  apply Classical.byContradiction
  intro hc
  have := h2 k (Nat.zero_le _) (by unfold fewM at hc; omega)
  rw [(canA_iff hV 0 S k).2 hk] at this
  cases this
def fewL (c : GT.C) : List Nat := leanN (shownW c)
def fewR (c : GT.C) : List Nat := GT.firsts (canA (2 ^ c.n)) (2 ^ c.n) 0 (fewL c) (fewM (2 ^ c.n) (fewL c))
theorem fewL_ok (c : GT.C) : ∀ s, s ∈ fewL c → s ≠ 0 ∧ s < 2 ^ 2 ^ c.n := fun s hs => by
  have h1 := leanN_mem hs
  unfold shownW shownF whereN at h1
  obtain ⟨f, hf, rfl⟩ := List.mem_map.1 h1
  have := (List.mem_filter.1 hf).2
  refine ⟨by simpa using this, GT.wd_lt _ _⟩
def gate_Fewest.f (a0 : Int) (l1 : List S40) (l2 : List Int) : Option (List Int × Int) := some (if okC a0 l1 l2 = true then (nI (fewR (toC a0.toNat l1 l2)), 0) else ([], 2))
end Go.Proofs.Ytelfalicickelaa.P
set_option linter.unusedSimpArgs false
set_option linter.unusedVariables false
namespace Go.Proofs.Ytelfalicickelaa.P
open Go.Lib Go.RowKit Go.Proofs.YtelfalicickelaaW.PrintWords Go.Proofs.YtelfalicickelaaW.PrintLast Go.Proofs.YtelfalicickelaaW.PrintMore Go.Proofs.Ytelfalicickelaa.Kit
theorem C_grown {k : IntKind} {W w1 : World} {row : Option Nat} {A : Option Addr} {n : Nat} {xs : List Int} (h : (Kd.int k).C W A n xs) (hg : W.grownBy w1 row) (hne : ∀ ad, A = some ad → some ad.block ≠ row) : (Kd.int k).C w1 A n xs := by
  refine ⟨h.1, h.2.1, fun hn => ?_⟩
  obtain ⟨ad, e, hc⟩ := h.2.2 hn
  refine ⟨ad, e, fun j p hp => ?_⟩
  obtain ⟨c, h1, h2, h3⟩ := hc j p hp
  refine ⟨c, h1, h2, fun i u hu => cell_grown hg (h3 i u hu) ?_⟩
  have hb : ∀ m, (ad.add m).block = ad.block := fun m => by
    unfold Addr.add
    split <;> rfl
  rw [hb]
  exact hne ad e
def FewInv (V : Nat) (R : List Nat) (v m : Nat) (L O : List Nat) : Prop := v ≤ V ∧ W64 L ∧ L.length ≤ 44 ∧ m ≤ 44 ∧ GT.Least V v L m ∧ O ++ GT.firsts (canA V) (V - v) v L m = R ∧ O.length ≤ v
theorem FewInv.done {V : Nat} {R : List Nat} {v m : Nat} {L O : List Nat} (h : FewInv V R v m L O) (hL : L = []) : O = R := by
  obtain ⟨h1, h2, h3, h4, h5, h6, h7⟩ := h
  have hm := h5.zero.1 hL
  subst hm
  have : ∀ d, GT.firsts (canA V) d v L 0 = [] := fun d => by cases d <;> rfl
  rw [this, List.append_nil] at h6
  exact h6
theorem FewInv.next {V : Nat} (hV : V ≤ 64) {R : List Nat} {v m : Nat} {L O : List Nat} (h : FewInv V R v m L O) (hL : L ≠ []) : v < V ∧ ∃ m', m = m' + 1 ∧ m' ≤ 44 ∧ (GT.canP pickM (aw V (v + 1)) m' (GT.without L v) = true → FewInv V R (v + 1) m' (GT.without L v) (O ++ [v])) ∧ (GT.canP pickM (aw V (v + 1)) m' (GT.without L v) = false → FewInv V R (v + 1) (m' + 1) L O) := by
  obtain ⟨h1, h2, h3, h4, h5, h6, h7⟩ := h
  have hm : m ≠ 0 := fun e => hL (h5.zero.2 e)
  have hv : v < V := by
    apply Classical.byContradiction
    intro hc
    exact hm (h5.last (by omega))
  obtain ⟨m', rfl⟩ : ∃ m', m = m' + 1 := ⟨m - 1, by omega⟩
  have hf : GT.firsts (canA V) (V - v) v L (m' + 1) = if canA V (v + 1) (GT.without L v) m' = true then v :: GT.firsts (canA V) (V - (v + 1)) (v + 1) (GT.without L v) m' else GT.firsts (canA V) (V - (v + 1)) (v + 1) L (m' + 1) := by
    rw [show V - v = (V - (v + 1)) + 1 by omega]; rfl
  rw [hf] at h6
  refine ⟨hv, m', rfl, by omega, fun hc => ?_, fun hc => ?_⟩
  · have hc' : canA V (v + 1) (GT.without L v) m' = true := hc
    rw [if_pos hc'] at h6
    exact ⟨by omega, without_W64 h2 v, Nat.le_trans (without_len L v) h3, by omega, h5.take hv ((canA_iff hV _ _ _).1 hc'), by rw [List.append_assoc]; exact h6, by simp only [List.length_append, List.length_singleton]; omega⟩
  · have hc' : canA V (v + 1) (GT.without L v) m' = false := hc
    rw [if_neg (by rw [hc']; decide)] at h6
    exact ⟨by omega, h2, h3, h4, h5.skip (fun h => by have := (canA_iff hV _ _ _).2 h; rw [hc'] at this; cases this), h6, by omega⟩
theorem shownW_len {N : Nat} (ls : List S40) (os : List Int) (h : N ≤ 6 ∧ ls.length ≤ 16) : (shownW (toC N ls os)).length ≤ 44 := by
  unfold shownW
  rw [List.length_map]
  exact shownF_len N ls os h
theorem shownW_W64 {N : Nat} (hN : N ≤ 6) (ls : List S40) (os : List Int) : W64 (shownW (toC N ls os)) := W64.of fun x hx => by
  unfold shownW at hx
  obtain ⟨f, _, rfl⟩ := List.mem_map.1 hx
  exact shows_lt64 hN ls os f
set_option maxHeartbeats 8000000
set_option maxRecDepth 100000
theorem fewest_ok (N : Nat) (A1 : Option Addr) (c1 : Nat) (l1 : List S40) (A2 : Option Addr) (c2 : Nat) (l2 : List Int) (w : World) (hr1 : Kd.C k40 w A1 l1.length l1) (hc1 : l1.length ≤ c1) (hr2 : Kd.C (Kd.int .i64) w A2 l2.length l2) (hc2 : l2.length ≤ c2) (hok : okC (N : Int) l1 l2 = true) :
    Calls Try.prog 20 #[.agg #[.int .i64 (N : Int), .slice A1 l1.length c1, .slice A2 l2.length c2]] w fun e w' => ∃ v0_ : Value, e = .returned (.tuple #[v0_, .int .i64 0]) ∧ Kd.R (Kd.int .i64) 3 w' w.heap.size (fun _ => True) v0_ (nI (fewR (toC N l1 l2))) ∧ Below w.heap.size w w' := by
  have hs := okC_small hok
  have hN6 : N ≤ 6 := by omega
  have hl16 : l1.length ≤ 16 := by omega
  have hV : 2 ^ N ≤ 64 := pow6 hN6
  have HB := Aside0.mk (Below.refl w.heap.size w)
  have HO := Aside0.mk (fun W (hb : Below w.heap.size w W) => of_ok N l1 l2 A1 c1 A2 c2 W hok (Kd.C_below hr1 hb) hc1 (Kd.C_below hr2 hb) hc2)
  have HSh := Aside0.mk (fun {W : World} {g : Nat} (hC : CircAt W g N l1 l2) => shown_calls hok hC)
  have HAl := Aside0.mk (fun {W : World} {g : Nat} (hC : CircAt W g N l1 l2) => all_calls hC hN6)
  simp only [show (2 ^ 2 ^ N - 1 : Nat) = aw (2 ^ N) 0 from rfl] at HAl
  have hlen := shownW_len l1 l2 ⟨hN6, hl16⟩ (N := N)
  have h64 := shownW_W64 hN6 l1 l2
  have hfl := fewL_ok (toC N l1 l2)
  have hll : (fewL (toC N l1 l2)).length ≤ 44 := Nat.le_trans (leanN_len _) hlen
  have hl64 : W64 (fewL (toC N l1 l2)) := leanN_W64 h64
  obtain ⟨f1, f2, f3, f4⟩ := few_spec hV hfl hll
  have HLn := Aside0.mk (lean_f (shownW (toC N l1 l2)) h64 (by omega) 10400 (Nat.le_refl _))
  rw [show leanN (shownW (toC N l1 l2)) = fewL (toC N l1 l2) from rfl] at HLn
  have hinv : FewInv (2 ^ N) (fewR (toC N l1 l2)) 0 (fewM (2 ^ N) (fewL (toC N l1 l2))) (fewL (toC N l1 l2)) [] := ⟨Nat.zero_le _, hl64, hll, f3, f4, rfl, Nat.le_refl _⟩
  clear hfl f4
  generalize fewM (2 ^ N) (fewL (toC N l1 l2)) = m0 at *
  generalize fewR (toC N l1 l2) = R at *
  generalize fewL (toC N l1 l2) = S at *
  generalize shownW (toC N l1 l2) = sW at *
  generalize 2 ^ N = P at *
  have HLs := Aside0.mk (And.intro hl64 hll)
  have HV := Aside0.mk hV
  have HF := Aside0.mk (And.intro f1 (And.intro f2 f3))
  have HI := Aside0.mk hinv
  clear hr1 hc1 hr2 hc2 hok hN6 hl16 hs hV hlen h64 hll hl64 f1 f2 f3 hinv
  go_enter Try.func20, Try.ntmps20
  go_wp2_with (first | (go_at_call 54; (with_reducible refine (HO.out _ (below_alloc HB.out _)).mono ?_); rintro e w1 ⟨g, rfl, hC, hb⟩; have HC1 := Aside0.mk hC; have HB1 := Aside0.mk (below_step (below_alloc HB.out _) hb); clear hC hb) | (go_at_call 60; (with_reducible refine (HSh.out HC1.out).mono ?_); rintro e w2 ⟨v5, v6, rfl, hR, _, ⟨A6, c6, e6⟩, hb⟩; subst e6; obtain ⟨A5, c5, rfl⟩ := Kd.R_slice hR; have HR5 := Aside0.mk (Kd.R_reads' hR); have HC2 := Aside0.mk (HC1.out.keep hb); have HB2 := Aside0.mk (HB1.out.trans (hb.mono HB1.out.size)); clear hR hb) | (go_at_call 61; (with_reducible refine (gate_lean.calls 10400 A5 c5 _ _ _ HR5.out.2.2 HR5.out.2.1 HLn.out).mono ?_); rintro e w3 ⟨v7, rfl, hR, hb⟩; obtain ⟨A7, c7, rfl⟩ := Kd.R_slice hR; have HR7 := Aside0.mk (Kd.R_reads' hR); have HC3 := Aside0.mk (HC2.out.keep hb); have HB3 := Aside0.mk (HB2.out.trans (hb.mono HB2.out.size)); clear hR hb))
  have HBw := Aside0.mk (Below.refl w3.heap.size w3)
  go_loopw [8] (fun v8 w' => ∃ i : Nat, v8 = .int .i64 (i : Int) ∧ Aside0 (i ≤ m0) ∧ Aside0 (Below w3.heap.size w3 w')) (fun v _ => m0 - (intOf v).toNat)
  case atStart => exact ⟨0, rfl, ⟨Nat.zero_le _⟩, HBw⟩
  case round =>
    clear HBw
    obtain ⟨i, rfl, Hi, HBw⟩ := hrel
    have HCr := Aside0.mk (HC3.out.keep HBw.out)
    have HRr := Aside0.mk (Kd.C_below HR7.out.2.2 HBw.out)
    by_cases him : i = m0
    · subst him
      have HCi := Aside0.mk (fun A c W hr => can_calls (aw P 0) (aw_lt HV.out 0) i (by have := HF.out.2.2; omega) S A c W HLs.out.1 (by have := HLs.out.2; omega) hr)
      have hb := HF.out.1
      unfold canA at hb
      simp only [hb] at HCi
      clear hb
      go_wp2_with (first | (go_at_call 63; (with_reducible refine (HAl.out HCr.out).mono ?_); rintro e w4 ⟨rfl, ⟨nd, rfl⟩⟩) | (go_at_call 62; (with_reducible refine (HCi.out A7 c7 _ (Kd.C_below HRr.out (pw_below_drewN (Below.refl _ _) nd))).mono ?_); rintro e w5 ⟨rfl, hb⟩; have HB5 := Aside0.mk (below_step (pw_below_drewN HBw.out nd) hb); have HC5 := Aside0.mk ((HCr.out.drewN nd).keep hb); have HR5n := Aside0.mk (Kd.C_below (Kd.C_below HRr.out (pw_below_drewN (Below.refl _ _) nd)) hb); clear hb) | (go_at_call 63; (with_reducible refine (HAl.out HC5.out).mono ?_); rintro e w6 ⟨rfl, ⟨nd6, rfl⟩⟩))
      have HBv := Aside0.mk (pw_below_drewN (Below.refl w5.heap.size w5) nd6)
      have HRv := Aside0.mk (Kd.C_below HR5n.out (pw_below_drewN (Below.refl _ _) nd6))
      clear HCi
      go_loopw [7, 8, 9, 10, 11] (fun v7 v8 v9 v10 v11 w' => ∃ (v m : Nat) (L : List Nat) (A : Option Addr) (c : Nat) (O : List Nat), v7 = .slice A (nI L).length c ∧ v8 = .int .i64 (m : Int) ∧ v10 = .int .u64 (aw P v : Int) ∧ v11 = .int .i64 (v : Int) ∧ Aside0 (FewInv P R v m L O) ∧ Aside0 (Kd.C (Kd.int .u64) w' A (nI L).length (nI L)) ∧ Aside0 (Kd.R (Kd.int .i64) 3 w' w5.heap.size (fun _ => True) v9 (nI O)) ∧ Aside0 (Below w5.heap.size w5 w')) (fun _ _ _ _ v _ => P - (intOf v).toNat)
      case atStart => exact ⟨0, i, S, A7, c7, [], rfl, rfl, rfl, rfl, HI, HRv, ⟨Kd.R_nil _ _ _ _ _⟩, HBv⟩
      case round =>
        clear HBv HRv
        obtain ⟨v, m, L, A, c, O, rfl, rfl, rfl, rfl, HJ, HC, HR, HBx⟩ := hrel
        have hnl := nI_length L
        by_cases h0 : L.length = 0
        · have HD := Aside0.mk (HJ.out.done (List.length_eq_zero_iff.1 h0))
          have hn0 : (nI L).length = 0 := by omega
          rw [hn0]
          clear h0 hnl hn0
          go_wp2
          go_ret2
          refine ⟨_, rfl, ?_, HB3.out.trans (Below.mono (HB5.out.trans (HBx.out.mono HB5.out.size)) HB3.out.size)⟩
          have h := R_low HR.out (Nat.le_trans HB3.out.size HB5.out.size)
          rw [HD.out] at h
          exact h
        · obtain ⟨hv, m', rfl, hm', hT, hF⟩ := HJ.out.next HV.out (fun e => h0 (by rw [e]; rfl))
          have HLL := Aside0.mk (And.intro HJ.out.2.1 HJ.out.2.2.1)
          have Hv := Aside0.mk hv
          have Hm := Aside0.mk hm'
          have HWo := Aside0.mk (fun W (hb : Below wr.heap.size wr W) => without_calls2 A c L v W (by have := HV.out; omega) HLL.out.1 (by omega) (by have := HLL.out.2; omega) (Kd.C_below HC.out hb))
          have HCi := Aside0.mk (fun A c W hr => can_calls (aw P (v + 1)) (aw_lt HV.out (v + 1)) m' (by omega) (GT.without L v) A c W (without_W64 HLL.out.1 v) (Nat.le_trans (without_len L v) (by have := HLL.out.2; omega)) hr)
          obtain ⟨b, hb⟩ : ∃ b, GT.canP pickM (aw P (v + 1)) m' (GT.without L v) = b := ⟨_, rfl⟩
          simp only [hb] at HCi hT hF
          have HTF := Aside0.mk (And.intro hT hF)
          have hsh : IntKind.u64.wrap ((2 : Int) ^ min v 64) = ((2 ^ v : Nat) : Int) := by
            rw [Nat.min_eq_left (by have := HV.out; omega), show (2 : Int) ^ v = ((2 ^ v : Nat) : Int) by simp, u64w (pow_lt64 (by have := HV.out; omega))]
          have han := andnu (aw P v) (2 ^ v) (aw_lt HV.out v) (pow_lt64 (by have := HV.out; omega))
          rw [← hsh] at han
          have HAn := Aside0.mk (show Go.bits .andNot .u64 (aw P v : Int) (IntKind.u64.wrap ((2 : Int) ^ min v 64)) = ((aw P (v + 1) : Nat) : Int) from han)
          have e1 : decide (((nI L).length : Int) > 0) = true := decide_eq_true (by omega)
          have e2 : decide (0 < (nI L).length) = true := decide_eq_true (by omega)
          have e4 : decide ((0 : Int) < ((nI L).length : Int)) = true := decide_eq_true (by omega)
          have HLen := Aside0.mk (show (nI O).length < 17592186044416 by rw [nI_length]; have := HJ.out.2.2.2.2.2.2; have := HV.out; omega)
          have HWv := Aside0.mk (show wrap64 ((v : Int) + 1) = ((v + 1 : Nat) : Int) by rw [w64 (by omega) (by have := HV.out; omega)]; omega)
          have HWi := Aside0.mk (show wrap64 (m' : Int) = (m' : Int) by rw [w64 (by omega) (by omega)])
          have HBr := Aside0.mk (Below.refl wr.heap.size wr)
          have e3 : (nI O) ++ [(v : Int)] = nI (O ++ [v]) := by rw [nI_snoc]
          have HTK := Aside0.mk e3
          have HOb := Aside0.mk (fun k hk => ((Kd.R_bound HR.out).1 k hk).2.2.1)
          clear hb hT hF hv hm' h0 hnl hsh han e3 HJ
          generalize hX : nI (GT.without L v) = X at *
          have HX := Aside0.mk hX
          clear hX
          cases b with
          | true =>
            go_wp2_with (first | (go_at_call 64; (with_reducible refine (HWo.out _ HBr.out).mono ?_); rintro e w7 ⟨A7b, c7b, rfl, hr7, hl7, hbk7, hb7⟩; have HK7 := Aside0.mk hbk7; have HR7b := Aside0.mk hr7; have HB7 := Aside0.mk hb7; clear hr7 hl7 hbk7 hb7) | (go_at_call 62; (try rw [HAn.out]); (try rw [HWi.out]); (with_reducible refine (HCi.out _ _ _ HR7b.out).mono ?_); rintro e w8 ⟨rfl, hb8⟩; have HR8 := Aside0.mk (Kd.C_below HR7b.out hb8); have HB8 := Aside0.mk (HB7.out.trans (hb8.mono HB7.out.size)); have HBx8 := Aside0.mk (HBx.out.trans (HB8.out.mono HBx.out.size)); have HO8 := Aside0.mk (Kd.R_below HR.out HB8.out); clear hb8) | ((with_reducible refine gate_builtin (b := .append) (xs := #[.tmp 51, .tmp 53]) rfl ?_); at_builtin; refine Kd.R_append (Kd.int .i64) (w0 := w5) w5.heap.size rfl (.tmp 51) (.tmp 53) 23 3 (.int .i64 0) 8 rfl Try.underlying23 info3 rfl (by decide) (by omega) _ (nI O) (v : Int) [.int .i64 (v : Int)] (fun _ => True) (fun _ => False) rfl rfl ?aP (fun _ hk => hk.elim) ?aF ?aO ?aB ?aS ?aL ?_; (case aP => exact rfl); (case aB => exact (by repeat (first | (with_reducible first | exact HBx8.out | apply below_alloc | apply pw_below_drewN | apply below_drew1) | exact HBx8.out))); (case aF => exact (fun _ _ => trivial)); (case aO => exact (by (with_reducible repeat (first | apply Kd.R_alloc | apply Kd.R_drewN | apply Kd.R_drew)); exact HO8.out)); (case aS => exact (below_size (by repeat (first | (with_reducible first | exact HBx8.out | apply below_alloc | apply pw_below_drewN | apply below_drew1) | exact HBx8.out)))); (case aL => have := HLen.out; omega); intro v9n w9 ho hb hg hat; rw [HTK.out] at ho; have HR9 := Aside0.mk ho; have HB9 := Aside0.mk hb; have HC9 := Aside0.mk (C_grown HR8.out hg (fun ad e => fun hh => by have h1 := HK7.out ad e; have h2 := HOb.out _ hh.symm; omega)); clear ho hb hg hat))
            refine ⟨⟨v + 1, m', GT.without L v, A7b, c7b, O ++ [v], by rw [HX.out], by rw [HWi.out], rfl, by rw [HWv.out], ⟨HTF.out.1 (by first | trivial | rfl)⟩, by rw [HX.out]; exact HC9, HR9, HB9⟩, ?_⟩
            · rw [HWv.out]; have := Hv.out; simp [intOf]; omega
          | false =>
            go_wp2_with (first | (go_at_call 64; (with_reducible refine (HWo.out _ HBr.out).mono ?_); rintro e w7 ⟨A7b, c7b, rfl, hr7, hl7, hbk7, hb7⟩; have HK7 := Aside0.mk hbk7; have HR7b := Aside0.mk hr7; have HB7 := Aside0.mk hb7; clear hr7 hl7 hbk7 hb7) | (go_at_call 62; (try rw [HAn.out]); (try rw [HWi.out]); (with_reducible refine (HCi.out _ _ _ HR7b.out).mono ?_); rintro e w8 ⟨rfl, hb8⟩; have HR8 := Aside0.mk (Kd.C_below HR7b.out hb8); have HB8 := Aside0.mk (HB7.out.trans (hb8.mono HB7.out.size)); have HBx8 := Aside0.mk (HBx.out.trans (HB8.out.mono HBx.out.size)); have HO8 := Aside0.mk (Kd.R_below HR.out HB8.out); clear hb8))
            refine ⟨⟨v + 1, m' + 1, L, A, c, O, rfl, rfl, by first | rfl | rw [HAn.out], by rw [HWv.out], ⟨HTF.out.2 (by first | trivial | rfl)⟩, ⟨Kd.C_below HC.out HB8.out⟩, HO8, HBx8⟩, ?_⟩
            · rw [HWv.out]; have := Hv.out; simp [intOf]; omega
    · have Him := Aside0.mk (show i < m0 by have := Hi.out; omega)
      have HCi := Aside0.mk (fun A c W hr => can_calls (aw P 0) (aw_lt HV.out 0) i (by have := HF.out.2.2; have := Him.out; omega) S A c W HLs.out.1 (by have := HLs.out.2; omega) hr)
      have hb := HF.out.2.1 i Him.out
      unfold canA at hb
      simp only [hb] at HCi
      have HWi := Aside0.mk (show wrap64 ((i : Int) + 1) = ((i + 1 : Nat) : Int) by rw [w64 (by omega) (by have := HF.out.2.2; have := Him.out; omega)]; omega)
      clear hb him
      go_wp2_with (first | (go_at_call 63; (with_reducible refine (HAl.out HCr.out).mono ?_); rintro e w4 ⟨rfl, ⟨nd, rfl⟩⟩) | (go_at_call 62; (with_reducible refine (HCi.out A7 c7 _ (Kd.C_below HRr.out (pw_below_drewN (Below.refl _ _) nd))).mono ?_); rintro e w5 ⟨rfl, hb⟩; have HB5 := Aside0.mk (below_step (pw_below_drewN HBw.out nd) hb); clear hb))
      go_roundw
      case rel => exact ⟨i + 1, by rw [w64 (by omega) (by have := HF.out.2.2; have := Him.out; omega)]; rfl, ⟨Him.out⟩, HB5⟩
      case measure => rw [w64 (by omega) (by have := HF.out.2.2; have := Him.out; omega)]; have := Him.out; simp [intOf]; omega
theorem fewest_no (n : Int) (A1 : Option Addr) (c1 : Nat) (l1 : List S40) (A2 : Option Addr) (c2 : Nat) (l2 : List Int) (w : World) (hr1 : Kd.C k40 w A1 l1.length l1) (hc1 : l1.length ≤ c1) (hr2 : Kd.C (Kd.int .i64) w A2 l2.length l2) (hc2 : l2.length ≤ c2) (hok : okC n l1 l2 = false) :
    Calls Try.prog 20 #[.agg #[.int .i64 n, .slice A1 l1.length c1, .slice A2 l2.length c2]] w fun e w' => e = .returned (.tuple #[.slice none 0 0, .int .i64 2]) ∧ Below w.heap.size w w' := by
  have HB := Aside0.mk (Below.refl w.heap.size w)
  have HO := Aside0.mk (fun W (hb : Below w.heap.size w W) => of_no n l1 l2 A1 c1 A2 c2 W hok (Kd.C_below hr1 hb) hc1 (Kd.C_below hr2 hb) hc2)
  clear hr1 hc1 hr2 hc2 hok
  go_enter Try.func20, Try.ntmps20
  go_wp2_with (first | (go_at_call 54; (with_reducible refine (HO.out _ (below_alloc HB.out _)).mono ?_); rintro e w1 ⟨rfl, hb⟩; have HB1 := Aside0.mk (below_step (below_alloc HB.out _) hb); clear hb))
  go_ret2
  exact ⟨rfl, HB1.out⟩
theorem gate_Fewest.calls (a0 : Int) (A1 : Option Addr) (c1 : Nat) (l1 : List S40) (A2 : Option Addr) (c2 : Nat) (l2 : List Int) (r1 : List Int) (r2 : Int) (w : World) (hr1 : Kd.C k40 w A1 l1.length l1) (hc1 : l1.length ≤ c1) (hr2 : Kd.C (Kd.int .i64) w A2 l2.length l2) (hc2 : l2.length ≤ c2) (h : gate_Fewest.f a0 l1 l2 = some (r1, r2)) :
    Calls Try.prog 20 #[.agg #[.int .i64 a0, .slice A1 l1.length c1, .slice A2 l2.length c2]] w fun e w' => ∃ v0_ : Value, e = .returned (.tuple #[v0_, .int .i64 r2]) ∧ Kd.R (Kd.int .i64) 3 w' w.heap.size (fun _ => True) v0_ r1 ∧ Below w.heap.size w w' := by
  unfold gate_Fewest.f at h
  by_cases hok : okC a0 l1 l2 = true
  · rw [if_pos hok] at h
    have hs := okC_small hok
    obtain ⟨N, rfl⟩ := Int.eq_ofNat_of_zero_le (show 0 ≤ a0 by omega)
    rw [Int.toNat_natCast] at h
    cases h
    refine (fewest_ok N A1 c1 l1 A2 c2 l2 w hr1 hc1 hr2 hc2 hok).mono ?_
    rintro e w' ⟨v0_, rfl, hR, hb⟩
    exact ⟨v0_, rfl, hR, hb⟩
  · rw [if_neg hok] at h
    cases h
    refine (fewest_no a0 A1 c1 l1 A2 c2 l2 w hr1 hc1 hr2 hc2 (by simpa using hok)).mono ?_
    rintro e w' ⟨rfl, hb⟩
    exact ⟨_, rfl, Kd.R_nil _ _ _ _ _, hb⟩
end Go.Proofs.Ytelfalicickelaa.P
