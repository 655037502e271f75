/- Texts of this claim, merged by a program (shake.py): what the last theorems reach of Pf19, RAlkR, QPoke, HGateAlike, PureGateAlike. -/
import Derived.Test.YtelfalicickelaaKB1
import Derived.Test.YtelfalicickelaaKB8
import Derived.Test.YtelfalicickelaaKGateAlike5
import Derived.Test.YtelfalicickelaaKGateAlike6
namespace Go.Proofs.Ytelfalicickelaa.P
open Go.RowKit Go.Proofs.YtelfalicickelaaW.PrintWords Go.Proofs.YtelfalicickelaaW.PrintLast Go.Proofs.YtelfalicickelaaW.PrintMore
attribute [local go_sem] max2_int max_two
set_option linter.unusedVariables false
set_option linter.unusedSimpArgs false
def neonwrightlaw07_lists.l0 : Nat → List (List Int) → List (List Int) → Int → Option (Bool)
  | 0, _, _, _ => none
  | k + 1, x0, x1, x5 => if x5 < (x0.length : Int) then (if 0 ≤ x5 then (if x5 < (x1.length : Int) then ((neonwrightlaw07_same.f k (rd_L4 x0 x5) (rd_L4 x1 x5)).bind fun t191 => (if t191 = true then (neonwrightlaw07_lists.l0 k x0 x1 (wrap64 (x5 + 1))) else (some false))) else (none)) else (none)) else (some true)
def neonwrightlaw07_lists.f (k : Nat) (l0 : List (List Int)) (l1 : List (List Int)) : Option (Bool) := if (l0.length : Int) = (l1.length : Int) then (neonwrightlaw07_lists.l0 k l0 l1 0) else (some false)
set_option maxHeartbeats 8000000 in
set_option maxRecDepth 100000 in
theorem neonwrightlaw07_lists.calls (k : Nat) (A0 : Option Addr) (c0 : Nat) (l0 : List (List Int)) (A1 : Option Addr) (c1 : Nat) (l1 : List (List Int)) (r : Bool) (w : World) (hr0 : Kd.C (Kd.slice 3 (Kd.int .i64)) w A0 l0.length l0) (hc0 : l0.length ≤ c0) (hr1 : Kd.C (Kd.slice 3 (Kd.int .i64)) w A1 l1.length l1) (hc1 : l1.length ≤ c1) (h : neonwrightlaw07_lists.f k l0 l1 = some r) :
    Calls Try.prog 19 #[.slice A0 l0.length c0, .slice A1 l1.length c1] w fun e w' => e = .returned (.bool r) ∧ Drawn0 w w' := by
  have HR0 := Aside0.mk hr0
  have HC0 := Aside0.mk hc0
  clear hr0 hc0
  have HR1 := Aside0.mk hr1
  have HC1 := Aside0.mk hc1
  clear hr1 hc1
  have H : (if (l0.length : Int) = (l1.length : Int) then (neonwrightlaw07_lists.l0 k l0 l1 0) else (some false)) = some r := h
  clear h
  by_cases c3 : (l0.length : Int) = (l1.length : Int)
  · rw [if_pos c3] at H
    have c3b0 : ((l0.length : Int) == (l1.length : Int)) = true := beq_iff_eq.mpr c3
    have c3b1 : ((l0.length : Int) != (l1.length : Int)) = false := bne_eq_false_iff_eq.mpr c3
    have c3b2 : (l0.length == l1.length) = true := by first | simpa using c3 | (simp at c3 ⊢; omega)
    clear c3
    have H' := Aside0.mk H
    clear H
    go_enter Try.func19, Try.ntmps19
    go_wp2
    repeat (go_quiet (fail); try go_wp2)
    go_loopg [5] k (fun kq v5 w' => ∃ (x5_1 : Int), v5 = .int .i64 x5_1 ∧ Aside0 (neonwrightlaw07_lists.l0 kq l0 l1 x5_1 = some r) ∧ Aside0 (kq ≤ k) ∧ Drawn0 w w')
    case atStart => exact ⟨(0), (by first | rfl | (simp; done) | (simp [*]; done)), H', ⟨Nat.le_refl _⟩, by repeat (first | exact Drawn0.refl _ | apply Drawn0.step)⟩
    case round =>
      clear H'
      try clear c1
      try clear p2
      try clear c3
      try clear c3b0
      try clear c3b1
      try clear c3b2
      obtain ⟨x5_1, rfl, HA, HK1, ⟨m1, rfl⟩⟩ := hrel
      cases gk with
      | zero => exact absurd HA.out (by simp [neonwrightlaw07_lists.l0])
      | succ k1 =>
        have H := HA.out
        clear HA
        simp only [neonwrightlaw07_lists.l0] at H
        by_cases c4 : x5_1 < (l0.length : Int)
        · rw [if_pos c4] at H
          have c4b0 : decide (x5_1 < (l0.length : Int)) = true := decide_eq_true c4
          clear c4
          by_cases c5 : 0 ≤ x5_1
          · rw [if_pos c5] at H
            have c5b0 : decide (0 ≤ x5_1) = true := decide_eq_true c5
            clear c5
            by_cases c6 : x5_1 < (l1.length : Int)
            · rw [if_pos c6] at H
              have c6b0 : decide (x5_1 < (l1.length : Int)) = true := decide_eq_true c6
              clear c6
              replace H := Option.bind_eq_some_iff.mp H
              obtain ⟨t191, A70, H⟩ := H
              replace H : (if t191 = true then (neonwrightlaw07_lists.l0 k1 l0 l1 (wrap64 (x5_1 + 1))) else (some false)) = some r := H
              have A7 := Aside0.mk A70
              clear A70
              by_cases c8 : t191 = true
              · subst c8
                have H1 : (neonwrightlaw07_lists.l0 k1 l0 l1 (wrap64 (x5_1 + 1))) = some r := by rw [if_pos rfl] at H; exact H
                clear H
                have H := H1
                clear H1
                have H' := Aside0.mk H
                clear H
                have p189 : 0 ≤ (x5_1 : Int) := of_decide_eq_true (by first | (with_reducible assumption) | assumption)
                have q189 : x5_1 < (l0.length : Int) := of_decide_eq_true (by first | (with_reducible assumption) | assumption)
                obtain ⟨ad189, A189_0, c189_0, e189, hx189_0, hl189_0, hi189_0⟩ := at_L4 HR0.out x5_1 p189 q189
                cases e189
                have HR189_0 := Aside0.mk hi189_0
                have HC189_0 := Aside0.mk hl189_0
                clear hi189_0 hl189_0
                replace p189 := eq_true p189
                replace q189 := eq_true q189
                have p190 : 0 ≤ (x5_1 : Int) := of_decide_eq_true (by first | (with_reducible assumption) | assumption)
                have q190 : x5_1 < (l1.length : Int) := of_decide_eq_true (by first | (with_reducible assumption) | assumption)
                obtain ⟨ad190, A190_0, c190_0, e190, hx190_0, hl190_0, hi190_0⟩ := at_L4 HR1.out x5_1 p190 q190
                cases e190
                have HR190_0 := Aside0.mk hi190_0
                have HC190_0 := Aside0.mk hl190_0
                clear hi190_0 hl190_0
                replace p190 := eq_true p190
                replace q190 := eq_true q190
                go_wp2_with (first | (go_at_call 22; (with_reducible refine (neonwrightlaw07_same.calls k1 _ _ (rd_L4 l0 x5_1) _ _ (rd_L4 l1 x5_1) true _ ?side1 ?side2 ?side3 ?side4 A7.out).mono ?_); (case side1 => repeat (first | exact HR189_0.out | (with_reducible refine Kd.C_alloc ?_ _) | (with_reducible refine Kd.C_drewN ?_ _) | (with_reducible refine Kd.C_drew ?_))); (case side2 => exact HC189_0.out); (case side3 => repeat (first | exact HR190_0.out | (with_reducible refine Kd.C_alloc ?_ _) | (with_reducible refine Kd.C_drewN ?_ _) | (with_reducible refine Kd.C_drew ?_))); (case side4 => exact HC190_0.out); rintro e w' ⟨rfl, ⟨nd, rfl⟩⟩; (try first | exact ⟨rfl, _, World.drewN_drewN _ _ _⟩ | exact ⟨rfl, _, Eq.trans (World.drewN_drewN _ _ _) (congrArg (World.drewN _) (Nat.add_assoc _ _ _))⟩)))
                repeat (go_quiet (first | (go_at_call 22; (with_reducible refine (neonwrightlaw07_same.calls k1 _ _ (rd_L4 l0 x5_1) _ _ (rd_L4 l1 x5_1) true _ ?side1 ?side2 ?side3 ?side4 A7.out).mono ?_); (case side1 => repeat (first | exact HR189_0.out | (with_reducible refine Kd.C_alloc ?_ _) | (with_reducible refine Kd.C_drewN ?_ _) | (with_reducible refine Kd.C_drew ?_))); (case side2 => exact HC189_0.out); (case side3 => repeat (first | exact HR190_0.out | (with_reducible refine Kd.C_alloc ?_ _) | (with_reducible refine Kd.C_drewN ?_ _) | (with_reducible refine Kd.C_drew ?_))); (case side4 => exact HC190_0.out); rintro e w' ⟨rfl, ⟨nd, rfl⟩⟩; (try first | exact ⟨rfl, _, World.drewN_drewN _ _ _⟩ | exact ⟨rfl, _, Eq.trans (World.drewN_drewN _ _ _) (congrArg (World.drewN _) (Nat.add_assoc _ _ _))⟩))); try go_wp2_with (first | (go_at_call 22; (with_reducible refine (neonwrightlaw07_same.calls k1 _ _ (rd_L4 l0 x5_1) _ _ (rd_L4 l1 x5_1) true _ ?side1 ?side2 ?side3 ?side4 A7.out).mono ?_); (case side1 => repeat (first | exact HR189_0.out | (with_reducible refine Kd.C_alloc ?_ _) | (with_reducible refine Kd.C_drewN ?_ _) | (with_reducible refine Kd.C_drew ?_))); (case side2 => exact HC189_0.out); (case side3 => repeat (first | exact HR190_0.out | (with_reducible refine Kd.C_alloc ?_ _) | (with_reducible refine Kd.C_drewN ?_ _) | (with_reducible refine Kd.C_drew ?_))); (case side4 => exact HC190_0.out); rintro e w' ⟨rfl, ⟨nd, rfl⟩⟩; (try first | exact ⟨rfl, _, World.drewN_drewN _ _ _⟩ | exact ⟨rfl, _, Eq.trans (World.drewN_drewN _ _ _) (congrArg (World.drewN _) (Nat.add_assoc _ _ _))⟩))))
                go_roundg k1
                case measure => have := HK1.out; omega
                case rel => exact ⟨(wrap64 (x5_1 + 1)), (by first | rfl | (simp; done) | (simp [*]; done)), H', ⟨by have := HK1.out; omega⟩, by repeat (first | exact Drawn0.refl _ | apply Drawn0.step)⟩
              · replace c8 := Bool.eq_false_iff.mpr c8
                subst c8
                have H1 : (some false) = some r := by rw [if_neg (show ¬ (false = true) by decide)] at H; exact H
                clear H
                have H := H1
                clear H1
                obtain rfl := Option.some.inj H
                have p189 : 0 ≤ (x5_1 : Int) := of_decide_eq_true (by first | (with_reducible assumption) | assumption)
                have q189 : x5_1 < (l0.length : Int) := of_decide_eq_true (by first | (with_reducible assumption) | assumption)
                obtain ⟨ad189, A189_0, c189_0, e189, hx189_0, hl189_0, hi189_0⟩ := at_L4 HR0.out x5_1 p189 q189
                cases e189
                have HR189_0 := Aside0.mk hi189_0
                have HC189_0 := Aside0.mk hl189_0
                clear hi189_0 hl189_0
                replace p189 := eq_true p189
                replace q189 := eq_true q189
                have p190 : 0 ≤ (x5_1 : Int) := of_decide_eq_true (by first | (with_reducible assumption) | assumption)
                have q190 : x5_1 < (l1.length : Int) := of_decide_eq_true (by first | (with_reducible assumption) | assumption)
                obtain ⟨ad190, A190_0, c190_0, e190, hx190_0, hl190_0, hi190_0⟩ := at_L4 HR1.out x5_1 p190 q190
                cases e190
                have HR190_0 := Aside0.mk hi190_0
                have HC190_0 := Aside0.mk hl190_0
                clear hi190_0 hl190_0
                replace p190 := eq_true p190
                replace q190 := eq_true q190
                go_wp2_with (first | (go_at_call 22; (with_reducible refine (neonwrightlaw07_same.calls k1 _ _ (rd_L4 l0 x5_1) _ _ (rd_L4 l1 x5_1) false _ ?side1 ?side2 ?side3 ?side4 A7.out).mono ?_); (case side1 => repeat (first | exact HR189_0.out | (with_reducible refine Kd.C_alloc ?_ _) | (with_reducible refine Kd.C_drewN ?_ _) | (with_reducible refine Kd.C_drew ?_))); (case side2 => exact HC189_0.out); (case side3 => repeat (first | exact HR190_0.out | (with_reducible refine Kd.C_alloc ?_ _) | (with_reducible refine Kd.C_drewN ?_ _) | (with_reducible refine Kd.C_drew ?_))); (case side4 => exact HC190_0.out); rintro e w' ⟨rfl, ⟨nd, rfl⟩⟩; (try first | exact ⟨rfl, _, World.drewN_drewN _ _ _⟩ | exact ⟨rfl, _, Eq.trans (World.drewN_drewN _ _ _) (congrArg (World.drewN _) (Nat.add_assoc _ _ _))⟩)))
                repeat (go_quiet (first | (go_at_call 22; (with_reducible refine (neonwrightlaw07_same.calls k1 _ _ (rd_L4 l0 x5_1) _ _ (rd_L4 l1 x5_1) false _ ?side1 ?side2 ?side3 ?side4 A7.out).mono ?_); (case side1 => repeat (first | exact HR189_0.out | (with_reducible refine Kd.C_alloc ?_ _) | (with_reducible refine Kd.C_drewN ?_ _) | (with_reducible refine Kd.C_drew ?_))); (case side2 => exact HC189_0.out); (case side3 => repeat (first | exact HR190_0.out | (with_reducible refine Kd.C_alloc ?_ _) | (with_reducible refine Kd.C_drewN ?_ _) | (with_reducible refine Kd.C_drew ?_))); (case side4 => exact HC190_0.out); rintro e w' ⟨rfl, ⟨nd, rfl⟩⟩; (try first | exact ⟨rfl, _, World.drewN_drewN _ _ _⟩ | exact ⟨rfl, _, Eq.trans (World.drewN_drewN _ _ _) (congrArg (World.drewN _) (Nat.add_assoc _ _ _))⟩))); try go_wp2_with (first | (go_at_call 22; (with_reducible refine (neonwrightlaw07_same.calls k1 _ _ (rd_L4 l0 x5_1) _ _ (rd_L4 l1 x5_1) false _ ?side1 ?side2 ?side3 ?side4 A7.out).mono ?_); (case side1 => repeat (first | exact HR189_0.out | (with_reducible refine Kd.C_alloc ?_ _) | (with_reducible refine Kd.C_drewN ?_ _) | (with_reducible refine Kd.C_drew ?_))); (case side2 => exact HC189_0.out); (case side3 => repeat (first | exact HR190_0.out | (with_reducible refine Kd.C_alloc ?_ _) | (with_reducible refine Kd.C_drewN ?_ _) | (with_reducible refine Kd.C_drew ?_))); (case side4 => exact HC190_0.out); rintro e w' ⟨rfl, ⟨nd, rfl⟩⟩; (try first | exact ⟨rfl, _, World.drewN_drewN _ _ _⟩ | exact ⟨rfl, _, Eq.trans (World.drewN_drewN _ _ _) (congrArg (World.drewN _) (Nat.add_assoc _ _ _))⟩))))
                go_ret
                exact ⟨by first | rfl | (simp; done) | (simp [*]; done), by repeat (first | exact Drawn0.refl _ | apply Drawn0.step)⟩
            · rw [if_neg c6] at H
              exact absurd H (by simp)
          · rw [if_neg c5] at H
            exact absurd H (by simp)
        · rw [if_neg c4] at H
          have c4b0 : decide (x5_1 < (l0.length : Int)) = false := decide_eq_false c4
          clear c4
          obtain rfl := Option.some.inj H
          go_wp2
          repeat (go_quiet (fail); try go_wp2)
          go_ret
          exact ⟨by first | rfl | (simp; done) | (simp [*]; done), by repeat (first | exact Drawn0.refl _ | apply Drawn0.step)⟩
  · rw [if_neg c3] at H
    have c3b0 : ((l0.length : Int) == (l1.length : Int)) = false := beq_eq_false_iff_ne.mpr c3
    have c3b1 : ((l0.length : Int) != (l1.length : Int)) = true := bne_iff_ne.mpr c3
    have c3b2 : (l0.length == l1.length) = false := by first | simpa using c3 | (simp at c3 ⊢; omega)
    obtain rfl := Option.some.inj H
    go_enter Try.func19, Try.ntmps19
    go_wp2
    repeat (go_quiet (fail); try go_wp2)
    go_ret
    exact ⟨by first | rfl | (simp; done) | (simp [*]; done), by repeat (first | exact Drawn0.refl _ | apply Drawn0.step)⟩
end Go.Proofs.Ytelfalicickelaa.P
set_option linter.unusedSimpArgs false
set_option linter.unusedVariables false
namespace Go.Proofs.Ytelfalicickelaa.P
open Go.Lib Go.RowKit Go.Proofs.YtelfalicickelaaW.PrintWords Go.Proofs.YtelfalicickelaaW.PrintLast Go.Proofs.YtelfalicickelaaW.PrintMore Go.Proofs.Ytelfalicickelaa.Kit
theorem ralike_l0 (N : Nat) (ls : List S40) (os : List Int) (hok : okC (N : Int) ls os = true) (a b : Nat) (ha : a ≤ 100) (hb : b ≤ 100) : ∀ (d v k : Nat), 2 ^ N - v = d → v ≤ 2 ^ N → (∀ u, u < v → GT.reply (toC N ls os) (some a) u = GT.reply (toC N ls os) (some b) u) → d + 50 ≤ k →
    neonwrightref07_alike.l0 k (a : Int) (b : Int) (v : Int) (N : Int) ls os = some (decide (kap (toC N ls os) a = kap (toC N ls os) b)) := by
  have hs := okC_small hok
  have hp := pow6 (N := N) (by omega)
  intro d
  induction d with
  | zero =>
    intro v k hd hv hu hk
    obtain ⟨k, rfl⟩ : ∃ q, k = q + 1 := ⟨k - 1, by omega⟩
    rw [neonwrightref07_alike.l0, if_pos (by omega), shl1n (by omega), if_neg (by omega), decide_eq_true ((kap_reply N ls os a b).2 fun u hu' => hu u (by omega))]
  | succ d ih =>
    intro v k hd hv hu hk
    obtain ⟨k, rfl⟩ : ∃ q, k = q + 1 := ⟨k - 1, by omega⟩
    have hvl : v < 2 ^ N := by omega
    have hw : ∀ _ : Unit, wrap64 ((v : Int) + 1) = ((v + 1 : Nat) : Int) := fun _ => by rw [w64 (by omega) (by omega)]; omega
    rw [neonwrightref07_alike.l0, if_pos (by omega), shl1n (by omega), if_pos (by omega), failure_f a (by omega), Option.bind_some]
    dsimp only
    rw [rreply_f N ls os hok (some a) v k (by omega), Option.bind_some, failure_f b (by omega), Option.bind_some]
    dsimp only
    rw [rreply_f N ls os hok (some b) v k (by omega), Option.bind_some, hw ()]
    by_cases h : GT.reply (toC N ls os) (some a) v = GT.reply (toC N ls os) (some b) v
    · rw [if_pos (by rw [h])]
      refine ih (v + 1) k (by omega) (by omega) (fun u hu' => ?_) (by omega)
      by_cases e : u = v
      · rw [e]; exact h
      · exact hu u (by omega)
    · rw [if_neg (fun e => h (by omega)), decide_eq_false (fun e => h ((kap_reply N ls os a b).1 e v hvl))]
theorem ralike_f (N : Nat) (ls : List S40) (os : List Int) (hok : okC (N : Int) ls os = true) (a b : Nat) (ha : a ≤ 100) (hb : b ≤ 100) (k : Nat) (hk : 120 ≤ k) : neonwrightref07_alike.f k (N : Int) ls os (a : Int) (b : Int) = some (decide (kap (toC N ls os) a = kap (toC N ls os) b)) := by
  have hs := okC_small hok
  have hp := pow6 (N := N) (by omega)
  exact ralike_l0 N ls os hok a b ha hb (2 ^ N) 0 k (Nat.sub_zero _) (Nat.zero_le _) (fun u hu => absurd hu (Nat.not_lt_zero _)) (by omega)
theorem place_at {β : Type} [DecidableEq β] (κ : Nat → β) (f : Nat) : ∀ (gs : List (List Nat)) (j : Nat) (hj : j < gs.length), (∀ i (hi : i < gs.length), i < j → κ (gs[i].headD 0) ≠ κ f) → κ (gs[j].headD 0) = κ f → GT.place κ gs f = gs.set j (gs[j] ++ [f])
  | [], j, hj, _, _ => by simp at hj
  | g :: t, 0, _, _, h => by
    rw [GT.place, if_pos (show κ (g.headD 0) = κ f from h)]
    rfl
  | g :: t, j + 1, hj, hn, h => by
    have h0 := hn 0 (by simp) (Nat.succ_pos j)
    rw [GT.place, if_neg (show κ (g.headD 0) ≠ κ f from h0), place_at κ f t j (by simpa using hj) (fun i hi hij => hn (i + 1) (by simpa using hi) (by omega)) h]
    rfl
theorem place_end {β : Type} [DecidableEq β] (κ : Nat → β) (f : Nat) : ∀ (gs : List (List Nat)), (∀ i (hi : i < gs.length), κ (gs[i].headD 0) ≠ κ f) → GT.place κ gs f = gs ++ [[f]]
  | [], _ => rfl
  | g :: t, hn => by
    rw [GT.place, if_neg (show κ (g.headD 0) ≠ κ f from hn 0 (by simp)), place_end κ f t (fun i hi => hn (i + 1) (by simpa using hi))]
    rfl
theorem rdL4_at (gs : List (List Nat)) (j : Nat) (hj : j < gs.length) : rd_L4 (gs.map nI) (j : Int) = nI gs[j] := by
  unfold rd_L4
  rw [Int.toNat_natCast, List.getD_eq_getElem?_getD, List.getElem?_map, List.getElem?_eq_getElem hj]
  rfl
theorem ralk_l1 (N : Nat) (ls : List S40) (os : List Int) (hok : okC (N : Int) ls os = true) (f : Nat) (hf : f ≤ 44) (gs : List (List Nat)) (hgl : gs.length ≤ 44) (hg : ∀ g, g ∈ gs → g ≠ [] ∧ g.length ≤ 44 ∧ g.headD 0 ≤ 44) (K : Nat) (hK : 200 ≤ K) : ∀ (d j k : Nat), gs.length - j = d → j ≤ gs.length → (∀ i (hi : i < gs.length), i < j → kap (toC N ls os) (gs[i].headD 0) ≠ kap (toC N ls os) f) → K + d + 1 ≤ k →
    ∃ k', K ≤ k' ∧ neonwrightref07_Alike.l1 k (gs.map nI) (f : Int) (j : Int) (N : Int) ls os = neonwrightref07_Alike.l0 k' ((GT.place (kap (toC N ls os)) gs f).map nI) ((f + 1 : Nat) : Int) (N : Int) ls os := by
  have hlen : (gs.map nI).length = gs.length := List.length_map ..
  have hw : ∀ _ : Unit, wrap64 ((f : Int) + 1) = ((f + 1 : Nat) : Int) := fun _ => by rw [w64 (by omega) (by omega)]; omega
  intro d
  induction d with
  | zero =>
    intro j k hd hj hno hk
    obtain ⟨k, rfl⟩ : ∃ q, k = q + 1 := ⟨k - 1, by omega⟩
    have hjn : j = gs.length := by omega
    subst hjn
    refine ⟨k, by omega, ?_⟩
    rw [place_end _ f gs (fun i hi => hno i hi hi), neonwrightref07_Alike.l1, if_neg (by omega), if_pos (by omega), if_pos (by omega), Option.bind_some, if_pos (by omega), if_pos (by rw [List.length_append, List.length_map, List.length_singleton]; omega)]
    have hrd : rd_L4 (gs.map nI ++ [[]]) ((gs.length : Nat) : Int) = [] := by
      unfold rd_L4
      rw [Int.toNat_natCast, List.getD_eq_getElem?_getD, List.getElem?_append_right (by simp)]
      simp
    rw [hrd, if_pos (by simp), hw (), Int.toNat_natCast, List.set_append_right _ _ (by simp), List.map_append]
    simp [nI]
  | succ d ih =>
    intro j k hd hj hno hk
    obtain ⟨k, rfl⟩ : ∃ q, k = q + 1 := ⟨k - 1, by omega⟩
    have hjl : j < gs.length := by omega
    have hw2 : ∀ _ : Unit, wrap64 ((j : Int) + 1) = ((j + 1 : Nat) : Int) := fun _ => by rw [w64 (by omega) (by omega)]; omega
    obtain ⟨g1, g2, g3⟩ := hg _ (List.getElem_mem hjl)
    have hrd := rdL4_at gs j hjl
    have hgpos := List.length_pos_iff.2 g1
    have hgl2 : (nI gs[j]).length = gs[j].length := by unfold nI; rw [List.length_map]
    have hhead : rd (nI gs[j]) 0 = ((gs[j].headD 0 : Nat) : Int) := by
      cases hx : gs[j] with
      | nil => exact absurd hx g1
      | cons a t => rfl
    rw [neonwrightref07_Alike.l1, if_pos (by omega), if_pos (by omega), hrd, if_pos (by omega), hhead, ralike_f N ls os hok _ f (by omega) (by omega) k (by omega), Option.bind_some]
    by_cases hb : kap (toC N ls os) (gs[j].headD 0) = kap (toC N ls os) f
    · refine ⟨k, by omega, ?_⟩
      rw [decide_eq_true hb, if_pos rfl, if_neg (by omega), if_pos (by omega), hw (), Int.toNat_natCast, place_at _ f gs j hjl hno hb, List.map_set]
      simp [nI]
    · obtain ⟨k', h1, h2⟩ := ih (j + 1) k (by omega) (by omega) (fun i hi hij => by
        by_cases e : i = j
        · subst e; exact hb
        · exact hno i hi (by omega)) (by omega)
      refine ⟨k', h1, ?_⟩
      rw [decide_eq_false hb, if_neg (by decide), hw2 ()]
      exact h2
theorem ralk_l0 (N : Nat) (ls : List S40) (os : List Int) (hok : okC (N : Int) ls os = true) : ∀ (d f k : Nat), 2 * (N + ls.length) - f = d → f ≤ 2 * (N + ls.length) → 300 + 60 * d ≤ k →
    neonwrightref07_Alike.l0 k ((GT.groups (kap (toC N ls os)) f).map nI) (f : Int) (N : Int) ls os = some ((GT.groups (kap (toC N ls os)) (2 * (N + ls.length))).map nI, 0) := by
  have hs := okC_small hok
  intro d
  induction d with
  | zero =>
    intro f k hd hf hk
    obtain ⟨k, rfl⟩ : ∃ q, k = q + 1 := ⟨k - 1, by omega⟩
    rw [neonwrightref07_Alike.l0, lines_f N (by omega) ls (by omega), Option.bind_some, w64 (x := 2 * ((N + ls.length : Nat) : Int)) (by omega) (by omega), if_neg (by omega), show f = 2 * (N + ls.length) by omega]
  | succ d ih =>
    intro f k hd hf hk
    obtain ⟨k, rfl⟩ : ∃ q, k = q + 1 := ⟨k - 1, by omega⟩
    have hG := GT.groups_spec (kap (toC N ls os)) f
    have hgl := groups_len hG
    have hgm : ∀ g, g ∈ GT.groups (kap (toC N ls os)) f → g ≠ [] ∧ g.length ≤ 44 ∧ g.headD 0 ≤ 44 := fun g hg => by
      have h1 := group_len hG hg
      have h2 := ((hG.mem hg).1 (head_mem hG hg)).1
      exact ⟨(hG.ok g hg).1, by omega, by omega⟩
    obtain ⟨k', h1, h2⟩ := ralk_l1 N ls os hok f (by omega) (GT.groups (kap (toC N ls os)) f) (by omega) hgm (300 + 60 * d) (by omega) _ 0 k (Nat.sub_zero _) (Nat.zero_le _) (fun i hi hij => absurd hij (Nat.not_lt_zero _)) (by omega)
    rw [show ((0 : Nat) : Int) = 0 from rfl] at h2
    rw [neonwrightref07_Alike.l0, lines_f N (by omega) ls (by omega), Option.bind_some, w64 (x := 2 * ((N + ls.length : Nat) : Int)) (by omega) (by omega), if_pos (by omega), h2]
    exact ih (f + 1) k' (by omega) (by omega) h1
theorem rAlike_f (n : Int) (ls : List S40) (os : List Int) (k : Nat) (hk : 4000 ≤ k) : neonwrightref07_Alike.f k n ls os = gate_Alike.f n ls os := by
  unfold neonwrightref07_Alike.f
  rw [rCircuit_f n ls os k (by omega), Option.bind_some]
  by_cases h : okC n ls os = true
  · obtain ⟨N, rfl⟩ := okC_nat h
    have hs := okC_small h
    rw [if_pos h, gate_Alike_ok N ls os h]
    exact ralk_l0 N ls os h (2 * (N + ls.length)) 0 k (Nat.sub_zero _) (Nat.zero_le _) (by omega)
  · rw [if_neg h, gate_Alike_no n ls os h]
theorem alike_lists (n : Int) (ls : List S40) (os : List Int) : ∃ L e, gate_Alike.f n ls os = some (L, e) ∧ L.length ≤ 44 ∧ ∀ r, r ∈ L → 0 < r.length ∧ r.length ≤ 44 := by
  by_cases h : okC n ls os = true
  · obtain ⟨N, rfl⟩ := okC_nat h
    have hs := okC_small h
    have hG := GT.groups_spec (kap (toC N ls os)) (2 * (N + ls.length))
    have hgl := groups_len hG
    refine ⟨_, _, gate_Alike_ok N ls os h, by rw [List.length_map]; omega, fun r hr => ?_⟩
    obtain ⟨g, hg, rfl⟩ := List.mem_map.1 hr
    have h1 := group_len hG hg
    have h2 := List.length_pos_iff.2 (hG.ok g hg).1
    rw [show (nI g).length = g.length from (by unfold nI; rw [List.length_map])]
    omega
  · exact ⟨_, _, gate_Alike_no n ls os h, by simp, fun r hr => by simp at hr⟩
theorem lists_l0 (L : List (List Int)) (hL : L.length ≤ 100) (hr : ∀ r, r ∈ L → r.length ≤ 100) : ∀ (d i k : Nat), L.length - i = d → i ≤ L.length → d + 110 ≤ k → neonwrightlaw07_lists.l0 k L L (i : Int) = some true := by
  intro d
  induction d with
  | zero =>
    intro i k hd hi hk
    obtain ⟨k, rfl⟩ : ∃ q, k = q + 1 := ⟨k - 1, by omega⟩
    rw [neonwrightlaw07_lists.l0, if_neg (by omega)]
  | succ d ih =>
    intro i k hd hi hk
    obtain ⟨k, rfl⟩ : ∃ q, k = q + 1 := ⟨k - 1, by omega⟩
    have hil : i < L.length := by omega
    have hw : ∀ _ : Unit, wrap64 ((i : Int) + 1) = ((i + 1 : Nat) : Int) := fun _ => by rw [w64 (by omega) (by omega)]; omega
    have hrd : rd_L4 L (i : Int) = L[i] := by unfold rd_L4; rw [Int.toNat_natCast, List.getD_eq_getElem?_getD, List.getElem?_eq_getElem hil]; rfl
    have hrl := hr _ (List.getElem_mem hil)
    rw [neonwrightlaw07_lists.l0, if_pos (by omega), if_pos (by omega), if_pos (by omega), hrd, same_f _ _ (by omega) k (by omega), Option.bind_some, if_pos (by simp), hw ()]
    exact ih (i + 1) k (by omega) (by omega) (by omega)
theorem lists_refl (L : List (List Int)) (hL : L.length ≤ 100) (hr : ∀ r, r ∈ L → r.length ≤ 100) (k : Nat) (hk : 300 ≤ k) : neonwrightlaw07_lists.f k L L = some true := by
  unfold neonwrightlaw07_lists.f
  rw [if_pos rfl]
  exact lists_l0 L hL hr L.length 0 k (Nat.sub_zero _) (Nat.zero_le _) (by omega)
end Go.Proofs.Ytelfalicickelaa.P
set_option linter.unusedSimpArgs false
set_option linter.unusedVariables false
namespace Go.Proofs.Ytelfalicickelaa.P
open Go.Lib Go.RowKit Go.Proofs.YtelfalicickelaaW.PrintWords Go.Proofs.YtelfalicickelaaW.PrintLast Go.Proofs.YtelfalicickelaaW.PrintMore Go.Proofs.Ytelfalicickelaa.Kit
theorem reps_nums {k : IntKind} {xs : List Int} {cs : List Value} (h : Reps (fun (x : Int) cs => cs = [Value.int k x]) 1 xs cs) : cs = nums k xs := by
  obtain ⟨hl, he⟩ := h
  apply List.ext_getElem?
  intro j
  by_cases hj : j < xs.length
  · have h1 := he j xs[j] (List.getElem?_eq_getElem hj)
    rw [Nat.mul_one] at h1
    have h2 : cs[j]? = ((cs.drop j).take 1)[0]? := by simp
    rw [h2, h1]
    simp [nums, List.getElem?_eq_getElem hj]
  · rw [List.getElem?_eq_none (by omega), List.getElem?_eq_none (by rw [nums_length]; omega)]
theorem reps_of_nums (k : IntKind) (xs : List Int) : Reps (fun (x : Int) cs => cs = [Value.int k x]) 1 xs (nums k xs) := by
  refine ⟨by rw [nums_length, Nat.mul_one], fun j p hj => ?_⟩
  have hlt : j < xs.length := by
    rcases Nat.lt_or_ge j xs.length with h | h
    · exact h
    · rw [List.getElem?_eq_none h] at hj; cases hj
  rw [List.getElem?_eq_getElem hlt] at hj
  injection hj with hj
  rw [Nat.mul_one]
  apply List.ext_getElem?
  intro i
  cases i with
  | zero => simp [nums, List.getElem?_eq_getElem hlt, hj]
  | succ i =>
    simp
    omega
theorem R_int_own {k : IntKind} {e base : Nat} {ok : Nat → Prop} {w : World} {v : Value} {xs : List Int} (h : (Kd.int k).R e w base ok v xs) : (∀ j, v.ownBlock = some j → ok j) ∧ w.ownsRow base e 1 v xs.length (nums k xs) := by
  obtain ⟨h0, inner, ho, hr⟩ := h
  have : inner = nums k xs := reps_nums hr
  subst this
  exact ⟨h0, ho⟩
theorem R_int_mk {k : IntKind} {e base : Nat} {ok : Nat → Prop} {w : World} {v : Value} {xs : List Int} (h0 : ∀ j, v.ownBlock = some j → ok j) (ho : w.ownsRow base e 1 v xs.length (nums k xs)) : (Kd.int k).R e w base ok v xs :=
  ⟨h0, nums k xs, ho, reps_of_nums k xs⟩
theorem choose_list {α : Type} [Inhabited α] (p : Nat → α → Prop) : ∀ n, (∀ j, j < n → ∃ r, p j r) → ∃ rs : List α, rs.length = n ∧ ∀ j, j < n → p j rs[j]! := by
  intro n
  induction n with
  | zero => intro _; exact ⟨[], rfl, fun j hj => by omega⟩
  | succ n ih =>
    intro h
    obtain ⟨rs, h1, h2⟩ := ih (fun j hj => h j (by omega))
    obtain ⟨r, hr⟩ := h n (by omega)
    refine ⟨rs ++ [r], by rw [List.length_append, h1]; rfl, fun j hj => ?_⟩
    by_cases e : j < n
    · have := h2 j e
      rw [getElem!_pos rs j (by omega)] at this
      rw [getElem!_pos _ j (by rw [List.length_append, h1]; simp; omega), List.getElem_append_left (by omega)]
      exact this
    · obtain rfl : j = n := by omega
      rw [getElem!_pos _ j (by rw [List.length_append, h1]; simp), List.getElem_append_right (by omega)]
      simpa [h1] using hr
theorem wrap1 {i : Nat} (h : i ≤ 9223372036854775806) : wrap64 ((i : Int) + 1) = ((i + 1 : Nat) : Int) := by rw [w64 (by omega) (by omega)]; omega
def Held (W : World) (B : Nat) (v : Value) (L : List Nat) : Prop := ∃ xs : List (List Int), xs.map List.length = L ∧ Kd.R (Kd.slice 3 (Kd.int .i64)) 23 W B (fun _ => True) v xs
theorem row_poke {W : World} {B g0 k : Nat} {x : Int} {cur : Array Value} {ok : Nat → Prop} {u : Value} {row : List Int} (hg : W.heap[g0]? = some (.cells cur 3 (0, 0))) (h : (Kd.int .i64).R 3 W B ok u row) :
    ∃ row' : List Int, row'.length = row.length ∧ (Kd.int .i64).R 3 (W.setCell ⟨g0, k, none⟩ (.int .i64 x)) B ok u row' := by
  obtain ⟨h0, ho⟩ := R_int_own h
  by_cases hb : u.ownBlock = some g0
  · rcases ho.2 with ⟨rfl, _⟩ | ⟨g, cap, cur', rfl, hg', _⟩
    · simp [Value.ownBlock] at hb
    · have e : g = g0 := by simpa [Value.ownBlock] using hb
      subst e
      obtain ⟨h1, _⟩ := own_store ho (k : Int) x
      rw [Int.toNat_natCast] at h1
      refine ⟨row.set k x, List.length_set, R_int_mk h0 ?_⟩
      rw [List.length_set]
      exact h1
  · exact ⟨row, rfl, R_int_mk h0 (own_setCell ho (fun e => hb e.symm) _)⟩
theorem Held.poke {W : World} {B : Nat} {v : Value} {L : List Nat} (h : Held W B v L) (i : Nat) (hi : i < L.length) :
    ∃ ad cap A0 c0, v = .slice (some ad) L.length cap ∧ W.cell? (ad.add i) = some (.slice A0 L[i] c0) ∧ ∀ k, k < L[i] → ∃ ad0 y, A0 = some ad0 ∧ W.cell? (ad0.add k) = some (.int .i64 y) ∧ W.frozen? (ad0.add k) = false ∧
      ∀ x : Int, Held (W.setCell (ad0.add k) (.int .i64 x)) B v L ∧ ∀ w0, Below B w0 W → Below B w0 (W.setCell (ad0.add k) (.int .i64 x)) := by
  obtain ⟨xs, rfl, hR⟩ := h
  rw [List.length_map] at hi ⊢
  obtain ⟨g, cap, rfl, hb, hl, _⟩ := Kd.R_form hR (by omega)
  obtain ⟨c, hc1, hM, hcell, _⟩ := Kd.R_elem hR [] (i : Int) (by omega) (by omega)
  obtain ⟨u, rfl, hRu⟩ := hM
  obtain ⟨A0, c0, rfl⟩ := Kd.R_slice hRu
  rw [Int.toNat_natCast] at hcell hRu
  have hgd : xs.getD i [] = xs[i] := by simp [List.getD_eq_getElem?_getD, hi]
  rw [hgd] at hcell hRu
  have hadd : ∀ (b j : Nat), (⟨b, 0, none⟩ : Addr).add j = ⟨b, j, none⟩ := fun b j => by
    unfold Addr.add
    by_cases e : j = 0
    · rw [if_pos e, e]
    · rw [if_neg e]; simp
  refine ⟨⟨g, 0, none⟩, cap, A0, c0, rfl, ?_, fun k hk => ?_⟩
  · rw [hadd, List.getElem_map]
    have := hcell 0 _ rfl
    rw [show i * (Kd.slice 3 (Kd.int .i64)).sz + 0 = i from by show i * 1 + 0 = i; omega] at this
    exact this
  · rw [List.getElem_map] at hk
    obtain ⟨h0, ho⟩ := R_int_own hRu
    rcases ho.2 with ⟨_, e⟩ | ⟨g0, cap0, cur, e, hg0, hh, hrest⟩
    · omega
    · injection e with e1 e2 e3
      subst e1 e3
      have hat := own_at ho (k : Int) (by omega) (by omega)
      rw [Int.toNat_natCast] at hat
      refine ⟨⟨g0, 0, none⟩, _, rfl, by rw [hadd]; exact hat.1, by rw [hadd]; exact hat.2, fun x => ?_⟩
      rw [hadd]
      refine ⟨?_, fun w0 hw => hw.setCell hg0 _⟩
      obtain ⟨h0', inner, ho', hr'⟩ := hR
      have hil : inner.length = xs.length := by have h9 : inner.length = xs.length * 1 := hr'.1; omega
      obtain ⟨rs, r1, r2⟩ := choose_list (α := List Int) (fun m row' => row'.length = (xs.getD m []).length ∧ (Kd.slice 3 (Kd.int .i64)).M (W.setCell ⟨g0, k, none⟩ (.int .i64 x)) B (fun k => (fun _ => True) k ∧ some k ≠ (Value.slice (some ⟨g, 0, none⟩) xs.length cap).ownBlock) row' ((inner.drop (m * 1)).take 1)) xs.length (fun m hm => by
        have hx := hr'.2 m xs[m] (List.getElem?_eq_getElem hm)
        obtain ⟨u, e, hRm⟩ := hx
        obtain ⟨row', h1, h2⟩ := row_poke (k := k) (x := x) hh hRm
        exact ⟨row', by rw [h1]; simp [List.getD_eq_getElem?_getD, hm], u, e, h2⟩)
      refine ⟨rs, ?_, fun _ _ => trivial, inner, ?_, ?_⟩
      · refine List.ext_getElem (by rw [List.length_map, List.length_map, r1]) (fun m a b => ?_)
        rw [List.length_map] at a b
        have := (r2 m b).1
        rw [getElem!_pos rs m a] at this
        rw [List.getElem_map, List.getElem_map, this]
        simp [List.getD_eq_getElem?_getD, b]
      · have := own_setCell ho' (p := ⟨g0, k, none⟩) (own_ne ho' hh (by decide)) (.int .i64 x)
        rw [r1]
        exact this
      · refine ⟨by rw [r1]; exact hr'.1, fun m p hp => ?_⟩
        obtain ⟨hm, e⟩ := List.getElem?_eq_some_iff.1 hp
        have := (r2 m (by omega)).2
        rw [getElem!_pos rs m hm, e] at this
        exact this
end Go.Proofs.Ytelfalicickelaa.P
set_option linter.unusedSimpArgs false
set_option linter.unusedVariables false
namespace Go.Proofs.Ytelfalicickelaa.P
open Go.Lib Go.RowKit Go.Proofs.YtelfalicickelaaW.PrintWords Go.Proofs.YtelfalicickelaaW.PrintLast Go.Proofs.YtelfalicickelaaW.PrintMore Go.Proofs.Ytelfalicickelaa.Kit
attribute [local go_sem] max2_int max_two
def neonwrightlaw07_GateAlike.f (a0_0 : Int) (l0_1 : List S40) (l0_2 : List Int) : Option Bool := some true
set_option maxHeartbeats 8000000
set_option maxRecDepth 100000
theorem alikeLaw_walk (n : Int) (A1 : Option Addr) (c1 : Nat) (l1 : List S40) (A2 : Option Addr) (c2 : Nat) (l2 : List Int) (w : World) (hr1 : Kd.C k40 w A1 l1.length l1) (hc1 : l1.length ≤ c1) (hr2 : Kd.C (Kd.int .i64) w A2 l2.length l2) (hc2 : l2.length ≤ c2) :
    Calls Try.prog 3 #[.agg #[.int .i64 n, .slice A1 l1.length c1, .slice A2 l2.length c2]] w fun e w' => e = .returned (.bool true) ∧ Below w.heap.size w w' := by
  have hu25 := Try.underlying25
  obtain ⟨L, e, h5, hl, hx⟩ := alike_lists n l1 l2
  have h6 := (rAlike_f n l1 l2 4000 (Nat.le_refl _)).trans h5
  have hkl := lists_refl L (by omega) (fun r hr => by have := hx r hr; omega) 300 (Nat.le_refl _)
  have HR1 := Aside0.mk hr1
  have HC1 := Aside0.mk hc1
  have HR2 := Aside0.mk hr2
  have HC2 := Aside0.mk hc2
  have H5 := Aside0.mk h5
  have H6 := Aside0.mk h6
  have HL := Aside0.mk hl
  have HX := Aside0.mk (show ∀ i (hi : i < (L.map List.length).length), 0 < (L.map List.length)[i] from fun i hi => by rw [List.getElem_map]; have := hx _ (List.getElem_mem (by simpa using hi)); omega)
  have HKL := Aside0.mk hkl
  have HF := Aside0.mk (few_f n l1 l2)
  have HLm := Aside0.mk (show (L.map List.length).length = L.length from List.length_map _)
  have ee3 : (e != e) = false := by simp
  clear h5 h6 hl hx hkl hr1 hc1 hr2 hc2
  have HB := Aside0.mk (Below.refl w.heap.size w)
  go_enter Try.func3, Try.ntmps3
  go_upto_region 1 with (first | ((with_reducible refine gate_dst (N := 1) rfl ?_); (try (refine gate_guard (by rfl) ?_; dsimp only)); refine box_event ?hg (N := 1) ?hd (cs := #[.int .i64 n, .slice A1 l1.length c1, .slice A2 l2.length c2]) (t := 25) ?hr ?_; (case hd => rfl); (case hg => rfl); (case hr => first | (go_simp; done) | (go_simp; rfl)); intro gb hg w5 hbox hb; have n0_ := Aside0.mk (below_step (by repeat (first | (with_reducible first | exact HB.out | apply below_alloc | apply pw_below_drewN | apply below_drew1) | exact HB.out)) hb); have n1_ := Aside0.mk (hbox); have n3_ := Aside0.mk ((by rw [hg]; exact (below_size (by repeat (first | (with_reducible first | exact HB.out | apply below_alloc | apply pw_below_drewN | apply below_drew1) | exact HB.out))) : w.heap.size ≤ gb)); clear HB; have HB := n0_; have BK := n1_; have GE := n3_; clear n0_ n1_ n3_; clear hb hbox hg))
  (try simp only [Act.put, List.setIfInBounds_toArray, List.set_cons_zero, List.set_cons_succ])
  have hcz_0 : w5.cell? ⟨gb, 0, none⟩ = some (.int .i64 n) := (blk_cell BK.out 0).trans rfl
  have hcz_1 : w5.cell? ⟨gb, 1, none⟩ = some (.slice A1 l1.length c1) := (blk_cell BK.out 1).trans rfl
  have hcz_2 : w5.cell? ⟨gb, 2, none⟩ = some (.slice A2 l2.length c2) := (blk_cell BK.out 2).trans rfl
  by_cases cf : isFew l1 l2 = true
  · rw [cf] at HF
    go_wp2_with (go_at_call 15; (refine (neonwrightlaw07_few.calls n A1 c1 l1 A2 c2 l2 true _ (by repeat (first | exact (Kd.C_below HR1.out HB.out) | (with_reducible refine Kd.C_drewN ?_ _) | (with_reducible refine Kd.C_drew ?_))) HC1.out (by repeat (first | exact (Kd.C_below HR2.out HB.out) | (with_reducible refine Kd.C_drewN ?_ _) | (with_reducible refine Kd.C_drew ?_))) HC2.out HF.out).mono ?_); rintro _ w6 ⟨rfl, hb⟩; have n0_ := Aside0.mk (blk_below (g := gb) (o := .cells #[.int .i64 n, .slice A1 l1.length c1, .slice A2 l2.length c2] 25 (0, 0)) (by (with_reducible repeat (first | refine blk_drewN ?_ _ | refine blk_drew ?_ | refine blk_alloc ?_ _)); exact BK.out) hb); have n1_ := Aside0.mk (below_step (by repeat (first | exact HB.out | apply pw_below_drewN | apply below_drew1)) hb); clear BK HB; have BK := n0_; have HB := n1_; clear n0_ n1_ hb; clear hcz_0 hcz_1 hcz_2; have hcz_0 : w6.cell? ⟨gb, 0, none⟩ = some (.int .i64 n) := (blk_cell BK.out 0).trans rfl; have hcz_1 : w6.cell? ⟨gb, 1, none⟩ = some (.slice A1 l1.length c1) := (blk_cell BK.out 1).trans rfl; have hcz_2 : w6.cell? ⟨gb, 2, none⟩ = some (.slice A2 l2.length c2) := (blk_cell BK.out 2).trans rfl)
    go_wp2_with (go_at_call 17; (refine (neonwrightref07_Alike.calls 4000 n A1 c1 l1 A2 c2 l2 L e _ (by repeat (first | exact (Kd.C_below HR1.out HB.out) | (with_reducible refine Kd.C_drewN ?_ _) | (with_reducible refine Kd.C_drew ?_))) HC1.out (by repeat (first | exact (Kd.C_below HR2.out HB.out) | (with_reducible refine Kd.C_drewN ?_ _) | (with_reducible refine Kd.C_drew ?_))) HC2.out H6.out).mono ?_); rintro _ w7 ⟨vb, rfl, hS, hb⟩; obtain ⟨Ab, cb, rfl⟩ := Kd.S_slice hS; have HCb := Aside0.mk (Kd.S_reads' hS); have n0_ := Aside0.mk (blk_below (g := gb) (o := .cells #[.int .i64 n, .slice A1 l1.length c1, .slice A2 l2.length c2] 25 (0, 0)) (by (with_reducible repeat (first | refine blk_drewN ?_ _ | refine blk_drew ?_ | refine blk_alloc ?_ _)); exact BK.out) hb); have n1_ := Aside0.mk (below_step (by repeat (first | exact HB.out | apply pw_below_drewN | apply below_drew1)) hb); clear BK HB; have BK := n0_; have HB := n1_; clear n0_ n1_ hb hS hcz_0 hcz_1 hcz_2)
    have HLb := Aside0.mk HCb.out.2.1
    have HC0 := Aside0.mk HCb.out.2.2
    clear HCb
    go_loopw [5] (fun v5 w' => ∃ i : Nat, v5 = .int .i64 (i : Int) ∧ Aside0 (i ≤ 2) ∧ Aside0 (Kd.C (Kd.slice 3 (Kd.int .i64)) w' Ab L.length L) ∧ Aside0 (w'.heap[gb]? = some (.cells #[.int .i64 n, .slice A1 l1.length c1, .slice A2 l2.length c2] 25 (0, 0))) ∧ Aside0 (Below w.heap.size w w')) (fun v _ => 2 - (intOf v).toNat)
    case atStart => exact ⟨0, rfl, ⟨by decide⟩, HC0, BK, HB⟩
    case round =>
      clear HC0 BK HB
      obtain ⟨i, rfl, Hi, HC, BK, HB⟩ := hrel
      by_cases ci : (i : Int) < 2
      · have c1' : decide ((i : Int) < 2) = true := decide_eq_true ci
        have Hci := Aside0.mk (show i < 2 by omega)
        clear ci
        generalize wr = W0 at *
        have hcz_0 : W0.cell? ⟨gb, 0, none⟩ = some (.int .i64 n) := (blk_cell BK.out 0).trans rfl
        have hcz_1 : W0.cell? ⟨gb, 1, none⟩ = some (.slice A1 l1.length c1) := (blk_cell BK.out 1).trans rfl
        have hcz_2 : W0.cell? ⟨gb, 2, none⟩ = some (.slice A2 l2.length c2) := (blk_cell BK.out 2).trans rfl
        go_wp2_with (first | (go_at_call 18; (refine (gate_Alike.calls n A1 c1 l1 A2 c2 l2 L e _ (by repeat (first | exact (Kd.C_below HR1.out HB.out) | (with_reducible refine Kd.C_drewN ?_ _) | (with_reducible refine Kd.C_drew ?_))) HC1.out (by repeat (first | exact (Kd.C_below HR2.out HB.out) | (with_reducible refine Kd.C_drewN ?_ _) | (with_reducible refine Kd.C_drew ?_))) HC2.out H5.out).mono ?_); rintro _ w2 ⟨va, rfl, hS, hb⟩; obtain ⟨Aa, ca, rfl⟩ := Kd.S_slice hS; have HCa := Aside0.mk (Kd.S_reads' hS); have HHa := Aside0.mk (show Held w2 W0.heap.size (.slice Aa L.length ca) (L.map List.length) from ⟨L, rfl, Kd.S_R hS⟩); have HB2 := Aside0.mk hb; clear hS hb) | (go_at_call 19; (refine (neonwrightlaw07_lists.calls 300 Aa ca L Ab cb L true _ (by repeat (first | exact HCa.out.2.2 | (with_reducible refine Kd.C_drewN ?_ _) | (with_reducible refine Kd.C_drew ?_))) HCa.out.2.1 (by repeat (first | exact (Kd.C_below HC.out HB2.out) | (with_reducible refine Kd.C_drewN ?_ _) | (with_reducible refine Kd.C_drew ?_))) HLb.out HKL.out).mono ?_); rintro _ w' ⟨rfl, ⟨nd, rfl⟩⟩))
        go_loopw [8] (fun v8 w' => ∃ j : Nat, v8 = .int .i64 (j : Int) ∧ Aside0 (j ≤ L.length) ∧ Aside0 (Held w' W0.heap.size (.slice Aa L.length ca) (L.map List.length)) ∧ Aside0 (Below W0.heap.size W0 w')) (fun v _ => L.length - (intOf v).toNat)
        case atStart => exact ⟨0, rfl, ⟨Nat.zero_le _⟩, ⟨by first | exact HHa.out | exact HHa.out.drewN _⟩, ⟨by repeat (first | exact HB2.out | apply pw_below_drewN | apply below_drew1)⟩⟩
        case round =>
          clear HCa HHa HB2
          obtain ⟨j, rfl, Hj, HH, HB2⟩ := hrel
          by_cases cj : (j : Int) < (L.length : Int)
          · have c2' : decide ((j : Int) < (L.length : Int)) = true := decide_eq_true cj
            have c3' : decide (j < L.length) = true := decide_eq_true (by omega)
            have Hcj := Aside0.mk (show j < L.length by omega)
            have q1 := eq_true cj
            have q2 := eq_true (show j < L.length by omega)
            have q3 := eq_true (show 0 ≤ (j : Int) by omega)
            obtain ⟨ad, cap, A0, c0, ev, hcell, hpk⟩ := HH.out.poke j (by rw [HLm.out]; omega)
            rw [HLm.out] at ev
            injection ev with ev1 ev2 ev3
            subst ev1 ev3
            have hpos := HX.out j (by rw [HLm.out]; omega)
            obtain ⟨ad0, y, rfl, hy, hfz, hset⟩ := hpk 0 hpos
            rw [show ad0.add 0 = ad0 by simp [Addr.add]] at hy hfz hset
            have q4 := eq_true hpos
            have q5 := eq_true (show (0 : Int) < (((L.map List.length)[j]'(by rw [HLm.out]; omega) : Nat) : Int) by omega)
            have HSet := Aside0.mk hset
            generalize hLj : (L.map List.length)[j]'(by rw [HLm.out]; have := Hcj.out; omega) = Lj at *
            clear hpk hset cj hpos hLj HH
            go_wp2
            go_roundw
            case rel => exact ⟨j + 1, by rw [wrap1 (by have := Hcj.out; have := HL.out; omega)], ⟨by have := Hcj.out; omega⟩, ⟨(HSet.out _).1⟩, ⟨(HSet.out _).2 _ HB2.out⟩⟩
            case measure => rw [wrap1 (by have := Hcj.out; have := HL.out; omega)]; have := Hcj.out; simp [intOf]; omega
          · have c2' : decide ((j : Int) < (L.length : Int)) = false := decide_eq_false cj
            have c3' : decide (j < L.length) = false := decide_eq_false (by omega)
            clear cj
            go_wp2
            go_roundw
            case rel => exact ⟨i + 1, by rw [wrap1 (by have := Hci.out; omega)], ⟨by have := Hci.out; omega⟩, ⟨Kd.C_below HC.out HB2.out⟩, ⟨blk_below BK.out HB2.out⟩, ⟨below_step HB.out HB2.out⟩⟩
            case measure => rw [wrap1 (by have := Hci.out; omega)]; have := Hci.out; simp [intOf]; omega
      · have c1' : decide ((i : Int) < 2) = false := decide_eq_false ci
        clear ci
        go_wp2_with (go_at_call 16; (refine (neonwrightlaw07_alive.calls true _ rfl).mono ?_); rintro _ w4 ⟨rfl, hb⟩; have HB4 := Aside0.mk (below_step (by repeat (first | exact HB.out | apply pw_below_drewN | apply below_drew1)) hb); clear hb)
        go_ret
        exact ⟨rfl, HB4.out⟩
  · rw [Bool.not_eq_true] at cf
    rw [cf] at HF
    go_wp2_with (first | (go_at_call 15; (refine (neonwrightlaw07_few.calls n A1 c1 l1 A2 c2 l2 false _ (by repeat (first | exact (Kd.C_below HR1.out HB.out) | (with_reducible refine Kd.C_drewN ?_ _) | (with_reducible refine Kd.C_drew ?_))) HC1.out (by repeat (first | exact (Kd.C_below HR2.out HB.out) | (with_reducible refine Kd.C_drewN ?_ _) | (with_reducible refine Kd.C_drew ?_))) HC2.out HF.out).mono ?_); rintro _ w6 ⟨rfl, hb⟩; have n1_ := Aside0.mk (below_step (by repeat (first | exact HB.out | apply pw_below_drewN | apply below_drew1)) hb); clear BK HB; have HB := n1_; clear n1_ hb; clear hcz_0 hcz_1 hcz_2) | (go_at_call 16; (refine (neonwrightlaw07_alive.calls true _ rfl).mono ?_); rintro _ w4 ⟨rfl, hb⟩; have HB4 := Aside0.mk (below_step (by repeat (first | exact HB.out | apply pw_below_drewN | apply below_drew1)) hb); clear hb))
    go_ret
    exact ⟨rfl, HB4.out⟩
theorem neonwrightlaw07_GateAlike.calls (a0_0 : Int) (A0_1 : Option Addr) (c0_1 : Nat) (l0_1 : List S40) (A0_2 : Option Addr) (c0_2 : Nat) (l0_2 : List Int) (r : Bool) (w : World) (hr0_1 : Kd.C k40 w A0_1 l0_1.length l0_1) (hc0_1 : l0_1.length ≤ c0_1) (hr0_2 : Kd.C (Kd.int .i64) w A0_2 l0_2.length l0_2) (hc0_2 : l0_2.length ≤ c0_2) (h : neonwrightlaw07_GateAlike.f a0_0 l0_1 l0_2 = some r) :
    Calls Try.prog 3 #[.agg #[.int .i64 a0_0, .slice A0_1 l0_1.length c0_1, .slice A0_2 l0_2.length c0_2]] w fun e w' => e = .returned (.bool r) ∧ Below w.heap.size w w' := by
  obtain rfl : true = r := Option.some.inj h
  exact alikeLaw_walk a0_0 A0_1 c0_1 l0_1 A0_2 c0_2 l0_2 w hr0_1 hc0_1 hr0_2 hc0_2
end Go.Proofs.Ytelfalicickelaa.P
set_option linter.unusedVariables false
namespace Go.Proofs.Ytelfalicickelaa.Pure
open Go.RowKit Go.Proofs.Ytelfalicickelaa.P
theorem GateAlike (n : Int) (ls : List S40) (os : List Int) (w0 : (Lit.int .i64 n).wf = true) : ∃ _k : Nat, neonwrightlaw07_GateAlike.f n ls os = some true := ⟨0, rfl⟩
end Go.Proofs.Ytelfalicickelaa.Pure
