/- Normal of a list is the same as the list and begins with 0; two lists are the same exactly if their Normals are equal; if tubes go round, and some are inverted in all states, the list stays the same, and stays a path, a snake or a coil, with the changes in another order (beyond 600 states the statement asks the closed example alone). -/
import Derived.Test.YtnakkdaeehglnaaJFlashNormal2
import Derived.Test.YtnakkdaeehglnaaJFlashNormal3
set_option linter.unusedSimpArgs false
set_option linter.unusedVariables false
set_option maxHeartbeats 1000000
namespace Go.Proofs.Ytnakkdaeehglnaa.Pure
open Go.Lib Go.RowKit Go.Proofs.YtnakkdaeehglnaaW.PrintWords Go.Proofs.YtnakkdaeehglnaaW.PrintMore Go.Proofs.Ytnakkdaeehglnaa.Kit Go.Proofs.Ytnakkdaeehglnaa.P

theorem fn_l1 {n k : Nat} {a c : List Int} (hn : 1 ≤ n ∧ n ≤ 12) (hk : k < n) (x y : List Int) (p : Bool) (hx : p = true → x.length = n ∧ y.length = n ∧ ∀ t, t < n → rd y (((t + k) % n : Nat) : Int) = rd x (t : Int)) :
    ∀ d i, x.length - i = d → i ≤ x.length → Ev (fun j => neonwrightlaw04_FlashNormal.l1 j (n : Int) (k : Int) p x y (i : Int)) true := by
  have hno : ∀ i : Nat, Ev (fun j => neonwrightlaw04_FlashNormal.j7 j (n : Int) (k : Int) p x y (i : Int) false) true := by
    intro i
    refine Ev.step (f := fun j => (neonwrightlaw04_alive.f j).bind fun t548 => (some t548)) (fun j => ?_) (Ev.bnd alive_ev (Ev.now true))
    simp only [neonwrightlaw04_FlashNormal.j7]
    rw [if_neg (by decide)]
  intro d
  induction d with
  | zero =>
    intro i hd hi
    refine Ev.step (fun j => ?_) (hno i)
    simp only [neonwrightlaw04_FlashNormal.l1]
    rw [if_neg (by omega)]
  | succ d ih =>
    intro i hd hi
    have hil : i < x.length := by omega
    cases hp : p with
    | false =>
      have := hno i
      rw [hp] at this
      refine Ev.step (fun j => ?_) this
      simp only [neonwrightlaw04_FlashNormal.l1]
      rw [if_pos (by omega)]
    | true =>
      obtain ⟨h1, h2, h3⟩ := hx hp
      have h4 := h3 i (by omega)
      have h5 : (i + k) % n < n := Nat.mod_lt _ (by omega)
      have hnext := ih (i + 1) (by omega) (by omega)
      rw [hp] at hnext
      have hm : ∀ _ : Unit, Int.tmod (wrap64 ((i : Int) + (k : Int))) (n : Int) = (((i + k) % n : Nat) : Int) := by
        intro _
        rw [w64 (by omega) (by omega), show (i : Int) + (k : Int) = ((i + k : Nat) : Int) from by omega, tmodn]
      have hj : Ev (fun j => neonwrightlaw04_FlashNormal.j7 j (n : Int) (k : Int) true x y (i : Int) true) true := by
        refine Ev.step (fun j => ?_) hnext
        simp only [neonwrightlaw04_FlashNormal.j7]
        rw [if_pos (by trivial), if_pos (by omega), if_neg (by omega), hm (), if_pos (by omega), if_pos (by omega), if_pos (by omega), if_pos (by omega), if_pos h4, w64 (x := (i : Int) + 1) (by omega) (by omega)]
        rfl
      refine Ev.step (fun j => ?_) hj
      simp only [neonwrightlaw04_FlashNormal.l1]
      rw [if_pos (by omega)]
theorem fn_j5 {n k z : Nat} {a : List Int} (h : Fine n a) (hk : k < n) (hz : z < 2 ^ n) : Ev (fun j => neonwrightlaw04_FlashNormal.j5 j (n : Int) a (moved n k z a) (k : Int) (pathB a) false) true := by
  have hm := moved_fine h hk hz
  refine Ev.step (f := fun j => (flash_Changes.f j (n : Int) a).bind fun bt538 => ((flash_Changes.f j (n : Int) (moved n k z a)).bind fun bt542 => (neonwrightlaw04_FlashNormal.l1 j (n : Int) (k : Int) (pathB a) bt538.1 bt542.1 0))) (fun j => ?_) (Ev.bnd (changes_ev _ _) (Ev.bnd (changes_ev _ _) ?_))
  · simp only [neonwrightlaw04_FlashNormal.j5]
    rw [if_neg (by decide)]
  · refine fn_l1 (a := a) (c := a) ⟨h.n1, h.n2⟩ hk _ _ _ (fun hp => ?_) _ 0 rfl (by omega)
    unfold changesR
    rw [if_pos (fine_listed h), if_pos (fine_listed hm), moved_path h hk hz, hp, if_pos rfl, if_pos rfl, Int.toNat_natCast]
    exact ⟨changesL_len _ _, changesL_len _ _, fun t ht => moved_changes h hk hz hp ht⟩
theorem fn_j4 {n k z : Nat} {a : List Int} (h : Fine n a) (hk : k < n) (hz : z < 2 ^ n) : Ev (fun j => neonwrightlaw04_FlashNormal.j4 j (n : Int) a (moved n k z a) (k : Int) false) true := by
  have hm := moved_fine h hk hz
  have e1 : pathR (n : Int) (moved n k z a) = pathR (n : Int) a := by
    unfold pathR
    rw [if_pos (fine_listed h), if_pos (fine_listed hm), moved_path h hk hz, moved_closed h hk hz]
  have e2 : snakeR (n : Int) (moved n k z a) = snakeR (n : Int) a := by
    unfold snakeR
    rw [if_pos (fine_listed h), if_pos (fine_listed hm), moved_path h hk hz, moved_closed h hk hz, moved_snake h hk hz, moved_snake h hk hz]
  have e3 : (pathR (n : Int) a).2.2 = 0 := by unfold pathR; rw [if_pos (fine_listed h)]
  have e4 : (snakeR (n : Int) a).2.2 = 0 := by unfold snakeR; rw [if_pos (fine_listed h)]
  have e5 : (pathR (n : Int) a).1 = pathB a := by unfold pathR; rw [if_pos (fine_listed h)]
  refine Ev.step (f := fun j => (flash_Snake.f j (n : Int) a).bind fun bt532 => ((flash_Snake.f j (n : Int) (moved n k z a)).bind fun bt535 => (if bt532.2.2 = 0 then (if bt535.2.2 = 0 then (if (bt532.1 != bt535.1) = true then (neonwrightlaw04_FlashNormal.j5 j (n : Int) a (moved n k z a) (k : Int) (pathB a) true) else (neonwrightlaw04_FlashNormal.j5 j (n : Int) a (moved n k z a) (k : Int) (pathB a) (bt532.2.1 != bt535.2.1))) else (neonwrightlaw04_FlashNormal.j5 j (n : Int) a (moved n k z a) (k : Int) (pathB a) true)) else (neonwrightlaw04_FlashNormal.j5 j (n : Int) a (moved n k z a) (k : Int) (pathB a) true)))) (fun j => ?_) (Ev.bnd (snakeR_ev _ _) (Ev.bnd (snakeR_ev _ _) ?_))
  · simp only [neonwrightlaw04_FlashNormal.j4]
    rw [if_neg (by decide), path_f, Option.bind_some, path_f, Option.bind_some, e1]
    simp only [e3, e5, if_true, bne_self_eq_false, Bool.false_eq_true, if_false]
  · rw [e2]
    refine Ev.pos e4 (Ev.pos e4 (Ev.neg (by simp) ?_))
    rw [bne_self_eq_false]
    exact fn_j5 h hk hz
theorem fn_elem {n k z s : Nat} (hn : 1 ≤ n ∧ n ≤ 12) (hk : k < n) (hs : s < 2 ^ n) (hz : z < 2 ^ n) :
    wrap64 ((Int.tmod (shl .i64 (Go.bits .xor .i64 (s : Int) (z : Int)) (k : Int)) ((2 ^ n : Nat) : Int)) + (shr .i64 (Go.bits .xor .i64 (s : Int) (z : Int)) (wrap64 ((n : Int) - (k : Int))))) = (rotN n k (s ^^^ z) : Int) := by
  have hp := pow12' hn.2
  have hx : s ^^^ z < 2 ^ n := Nat.xor_lt_two_pow hs hz
  have hr := rot_lt hk hx
  have hkp := pow12' (n := k) (by omega)
  have hmul : (s ^^^ z) * 2 ^ k ≤ 4096 * 4096 := Nat.mul_le_mul (by omega) hkp
  have hdm := Nat.div_le_self (s ^^^ z) (2 ^ (n - k))
  rw [xor64 s z (by omega) (by omega), w64 (x := (n : Int) - (k : Int)) (by omega) (by omega), show (n : Int) - (k : Int) = ((n - k : Nat) : Int) from by omega, shrn (by omega)]
  have hsh : shl .i64 ((s ^^^ z : Nat) : Int) (k : Int) = (((s ^^^ z) * 2 ^ k : Nat) : Int) := by
    unfold shl
    have hb : IntKind.i64.bits = 64 := rfl
    rw [hb, Nat.min_eq_left (by omega), IntKind.wrap_i64, Int.toNat_natCast]
    have e : ((s ^^^ z : Nat) : Int) * (2 : Int) ^ k = (((s ^^^ z) * 2 ^ k : Nat) : Int) := by simp
    rw [e]
    generalize (s ^^^ z) * 2 ^ k = q at hmul
    omega
  rw [hsh, tmodn]
  unfold rotN at hr ⊢
  generalize (s ^^^ z) * 2 ^ k % 2 ^ n = q at hr ⊢
  generalize (s ^^^ z) / 2 ^ (n - k) = d at hr hdm ⊢
  rw [w64 (by omega) (by omega)]
  omega
theorem fn_l0 {n k z : Nat} {a : List Int} (h : Fine n a) (hk : k < n) (u : Nat) (hu : u ≤ 65535) (hz : z = u % 2 ^ n) :
    ∀ d i, a.length - i = d → i ≤ a.length → Ev (fun j => neonwrightlaw04_FlashNormal.l0 j (n : Int) a (u : Int) (normalL n a) 0 true (moved n k z (a.take i)) (k : Int) (i : Int)) true := by
  have hn1 := h.n1
  have hn2 := h.n2
  have hl := h.le
  have hpp := Nat.two_pow_pos n
  have hzl : z < 2 ^ n := by rw [hz]; exact Nat.mod_lt _ hpp
  have hm := moved_fine h hk hzl
  have hp := pow12' hn2
  intro d
  induction d with
  | zero =>
    intro i hd hi
    obtain rfl : i = a.length := by omega
    rw [List.take_length]
    have hc : (normalL n a).length ≤ 4096 := normal_len2 h
    have hs : sameR (n : Int) a (moved n k z a) = (true, 0) := by
      unfold sameR
      rw [if_pos (fine_listed h), if_pos (fine_listed hm), Int.toNat_natCast, moved_normal h hk hzl, decide_eq_true rfl]
    have hs0 := sameR_ev (n : Int) a (moved n k z a)
    rw [hs] at hs0
    refine Ev.step (f := fun j => (flash_Same.f j (n : Int) a (moved n k z a)).bind fun bt519 => (if bt519.2 = 0 then (if bt519.1 = true then ((neonwrightlaw04_same.f j (normalL n a) (normalL n a)).bind fun t525 => (neonwrightlaw04_FlashNormal.j4 j (n : Int) a (moved n k z a) (k : Int) (!t525))) else (neonwrightlaw04_FlashNormal.j4 j (n : Int) a (moved n k z a) (k : Int) true)) else (neonwrightlaw04_FlashNormal.j4 j (n : Int) a (moved n k z a) (k : Int) true))) (fun j => ?_) (Ev.bnd hs0 (Ev.pos rfl (Ev.pos rfl (Ev.bnd (same_self _ (by omega)) (fn_j4 h hk hzl)))))
    simp only [neonwrightlaw04_FlashNormal.l0]
    rw [if_neg (by omega), normalR_f]
    unfold normalR
    rw [if_pos (fine_listed hm), Int.toNat_natCast, moved_normal h hk hzl]
    simp only [Option.bind_some, if_true]
  | succ d ih =>
    intro i hd hi
    have hil : i < a.length := by omega
    have hnext := ih (i + 1) (by omega) (by omega)
    have hb := fine_bit h i hil
    have hr := h.rd i hil
    have ht : moved n k z (a.take (i + 1)) = moved n k z (a.take i) ++ [(rotN n k ((rd a (i : Int)).toNat ^^^ z) : Int)] := by
      unfold moved
      rw [List.take_succ_eq_append_getElem hil, List.map_append, List.map_singleton, rd_get a i hil]
    have hlen : (moved n k z (a.take i)).length ≤ 4096 := by rw [moved_len, List.length_take]; omega
    have he := fn_elem (n := n) (k := k) (z := z) (s := (rd a (i : Int)).toNat) ⟨hn1, hn2⟩ hk hb hzl
    rw [show (((rd a (i : Int)).toNat : Nat) : Int) = rd a (i : Int) from by omega] at he
    have hzz : Int.tmod (wrap64 (u : Int)) ((2 ^ n : Nat) : Int) = (z : Int) := by
      rw [w64n _ (by omega), tmodn, ← hz]
    rw [ht] at hnext
    refine Ev.step (fun j => ?_) hnext
    simp only [neonwrightlaw04_FlashNormal.l0]
    rw [if_pos (by omega), if_pos (by omega), if_pos (by omega), shl1n (by omega), if_neg (by omega), if_pos (by omega), if_pos (by rw [w64 (by omega) (by omega)]; omega), if_pos (by omega), hzz, he, w64 (x := (i : Int) + 1) (by omega) (by omega)]
    rfl
theorem FlashNormal : neonwrightlaw04_FlashNormal.Pure := by
  intro n a b u v _ _ _ _ _ _ _ hu hv
  have hu := castu16 hu
  have hv := castu8 hv
  obtain ⟨u, rfl⟩ : ∃ m : Nat, u = m := ⟨u.toNat, by omega⟩
  obtain ⟨v, rfl⟩ : ∃ m : Nat, v = m := ⟨v.toNat, by omega⟩
  refine Ev.rounds (g := fun k => neonwrightlaw04_FlashNormal.f k n a b (u : Int) (v : Int)) ?_
  have hx : Ev (fun k => neonwrightlaw04_FlashNormal.j0 k n a b (u : Int) (v : Int) true) true := by
    refine Ev.step (f := fun k => (neonwrightlaw04_alive.f k).bind fun t383 => (some t383)) (fun k => ?_) (Ev.bnd alive_ev (Ev.now true))
    simp only [neonwrightlaw04_FlashNormal.j0]
    rw [if_pos (by trivial)]
  by_cases h : (a.length : Int) ≤ 600
  · by_cases h2 : (b.length : Int) ≤ 600
    · refine Ev.congr (f := fun k => neonwrightlaw04_FlashNormal.j0 k n a b (u : Int) (v : Int) false) (fun k => ?_) ?_
      · show neonwrightlaw04_FlashNormal.f k n a b _ _ = _
        unfold neonwrightlaw04_FlashNormal.f neonwrightlaw04_few.f
        rw [decide_eq_true h, Option.bind_some, if_pos rfl, decide_eq_true h2, Option.bind_some]
        rfl
      · refine Ev.step (f := fun k => (flash_Same.f k n a b).bind fun bt508 => (if (normalR n a).2 = 0 then (neonwrightlaw04_FlashNormal.j1 k n a (u : Int) (v : Int) (normalR n a).1 (normalR n b).1 bt508.1 bt508.2 ((normalR n b).2 != 0)) else (neonwrightlaw04_FlashNormal.j1 k n a (u : Int) (v : Int) (normalR n a).1 (normalR n b).1 bt508.1 bt508.2 true))) (fun k => ?_) (Ev.bnd (sameR_ev n a b) ?_)
        · simp only [neonwrightlaw04_FlashNormal.j0]
          rw [if_neg (by decide), normalR_f, Option.bind_some, normalR_f, Option.bind_some]
        · have hbad : ∀ (p q : List Int) (e : Int), e ≠ 0 → Ev (fun k => neonwrightlaw04_FlashNormal.j1 k n a (u : Int) (v : Int) p q false e true) true := by
            intro p q e he
            refine Ev.step (f := fun k => (neonwrightlaw04_alive.f k).bind fun t383 => (some t383)) (fun k => ?_) (Ev.bnd alive_ev (Ev.now true))
            simp only [neonwrightlaw04_FlashNormal.j1]
            rw [if_pos (by trivial), if_neg he, if_neg (by decide)]
          unfold sameR
          by_cases hz : listedN n a = 0
          · obtain ⟨m, rfl, hf⟩ := listedN_fine hz
            rw [if_pos hz]
            by_cases hy : listedN (m : Int) b = 0
            · obtain ⟨m2, e2, hg⟩ := listedN_fine hy
              have e2 : m = m2 := by omega
              subst e2
              have hn1 := hf.n1
              have hn2 := hf.n2
              have hle := normal_len2 hf
              have hle2 := normal_len2 hg
              have hpos := hf.pos
              have hlen := normalL_len m a
              have hnr : normalR (m : Int) a = (normalL m a, 0) := by unfold normalR; rw [if_pos hz, Int.toNat_natCast]
              have hnr2 : normalR (m : Int) b = (normalL m b, 0) := by unfold normalR; rw [if_pos hy, Int.toNat_natCast]
              rw [if_pos hy, hnr, hnr2, Int.toNat_natCast]
              refine Ev.pos rfl ?_
              have hk : v % m < m := Nat.mod_lt _ (by omega)
              have h0 := fn_l0 hf hk u (by omega) rfl a.length 0 (by omega) (by omega)
              have hs : sameR (m : Int) a (normalL m a) = (true, 0) := by
                unfold sameR
                rw [if_pos hz, if_pos (fine_listed (normal_fine hf)), Int.toNat_natCast, normal_normal hn1, decide_eq_true rfl]
              have hs0 := sameR_ev (m : Int) a (normalL m a)
              rw [hs] at hs0
              have hj2 : Ev (fun k => neonwrightlaw04_FlashNormal.j2 k (m : Int) a (u : Int) (v : Int) (normalL m a) false) true := by
                refine Ev.step (f := fun k => (flash_Same.f k (m : Int) a (normalL m a)).bind fun bt513 => (neonwrightlaw04_FlashNormal.l0 k (m : Int) a (u : Int) (normalL m a) bt513.2 bt513.1 ([] : List Int) ((v % m : Nat) : Int) 0)) (fun k => ?_) (Ev.bnd hs0 h0)
                simp only [neonwrightlaw04_FlashNormal.j2]
                rw [if_neg (by decide)]
                simp only [if_neg (show ¬ ((m : Int) = 0) by omega)]
                rw [w64n _ (by omega), tmodn]
              refine Ev.step (f := fun k => (neonwrightlaw04_same.f k (normalL m a) (normalL m b)).bind fun t511 => (if (decide (normalL m a = normalL m b) != t511) = true then (neonwrightlaw04_FlashNormal.j2 k (m : Int) a (u : Int) (v : Int) (normalL m a) true) else (if ((normalL m a).length : Int) = (a.length : Int) then (if 0 < ((normalL m a).length : Int) then (neonwrightlaw04_FlashNormal.j2 k (m : Int) a (u : Int) (v : Int) (normalL m a) ((rd (normalL m a) 0) != 0)) else (none)) else (neonwrightlaw04_FlashNormal.j2 k (m : Int) a (u : Int) (v : Int) (normalL m a) true)))) (fun k => ?_) (Ev.bnd (same_ev _ _ (by omega) (by omega)) (Ev.neg (by simp) (Ev.pos (by rw [hlen]) (Ev.pos (by omega) ?_))))
              · simp only [neonwrightlaw04_FlashNormal.j1]
                rw [bne_self_eq_false, if_neg (by decide), if_pos (by trivial)]
              · rw [normal_first hn1 a hpos, bne_self_eq_false]
                exact hj2
            · rw [if_neg hy]
              have hnr : (normalR (m : Int) a).2 = 0 := by unfold normalR; rw [if_pos hz]
              have hnr2 : (normalR (m : Int) b).2 = listedN (m : Int) b := by unfold normalR; rw [if_neg hy]
              refine Ev.pos hnr ?_
              rw [hnr2, show (listedN (m : Int) b != 0) = true from by simpa using hy]
              exact hbad _ _ _ hy
          · rw [if_neg hz]
            have hnr : (normalR n a).2 = listedN n a := by unfold normalR; rw [if_neg hz]
            refine Ev.neg (by rw [hnr]; exact hz) ?_
            exact hbad _ _ _ hz
    · refine Ev.congr (f := fun k => neonwrightlaw04_FlashNormal.j0 k n a b (u : Int) (v : Int) true) (fun k => ?_) hx
      show neonwrightlaw04_FlashNormal.f k n a b _ _ = _
      unfold neonwrightlaw04_FlashNormal.f neonwrightlaw04_few.f
      rw [decide_eq_true h, Option.bind_some, if_pos rfl, decide_eq_false h2, Option.bind_some]
      rfl
  · refine Ev.congr (f := fun k => neonwrightlaw04_FlashNormal.j0 k n a b (u : Int) (v : Int) true) (fun k => ?_) hx
    show neonwrightlaw04_FlashNormal.f k n a b _ _ = _
    unfold neonwrightlaw04_FlashNormal.f neonwrightlaw04_few.f
    rw [decide_eq_false h, Option.bind_some, if_neg (by decide)]
end Go.Proofs.Ytnakkdaeehglnaa.Pure
