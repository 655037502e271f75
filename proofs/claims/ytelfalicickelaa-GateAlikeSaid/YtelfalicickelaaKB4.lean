/- Texts of this claim, merged by a program (shake.py): what the last theorems reach of QWout, Pf93, QMin, QCan, Pf61, QLeanW, QSh0, QFewN. -/
import Derived.Shelf.SlicesE.DeleteFunc
import Derived.Deep.RegionHeld3
import Derived.Test.YtelfalicickelaaKB3
import Derived.Test.YtelfalicickelaaKB1
set_option linter.unusedSimpArgs false
set_option linter.unusedVariables false
namespace Go.Proofs.Ytelfalicickelaa.P
open Go.Lib Go.RowKit Go.Shelf Go.Sort Go.Proofs.YtelfalicickelaaW.PrintWords Go.Proofs.YtelfalicickelaaW.PrintLast Go.Proofs.YtelfalicickelaaW.PrintMore Go.Proofs.Ytelfalicickelaa.Kit
structure U64 where
  n : Nat
  lt : n < 18446744073709551616
instance : Inhabited U64 := ⟨⟨0, by decide⟩⟩
def encU (x : U64) : Value := .int .u64 (x.n : Int)
def toU (x : Nat) : U64 := if h : x < 18446744073709551616 then ⟨x, h⟩ else ⟨0, by decide⟩
theorem toU_n {x : Nat} (h : x < 18446744073709551616) : (toU x).n = x := by unfold toU; rw [dif_pos h]
theorem W64.mem {l : List Nat} (h : W64 l) {x : Nat} (hx : x ∈ l) : x < 18446744073709551616 := by
  obtain ⟨i, hi, rfl⟩ := List.mem_iff_getElem.1 hx
  have := h i
  simpa [List.getD_eq_getElem?_getD, hi] using this
theorem W64.of {l : List Nat} (h : ∀ x, x ∈ l → x < 18446744073709551616) : W64 l := by
  intro i
  by_cases hi : i < l.length
  · have := h l[i] (List.getElem_mem hi)
    simpa [List.getD_eq_getElem?_getD, hi] using this
  · rw [List.getD_eq_getElem?_getD, List.getElem?_eq_none (by omega)]
    decide
theorem without_W64 {l : List Nat} (h : W64 l) (v : Nat) : W64 (GT.without l v) := W64.of fun x hx => h.mem (List.mem_filter.1 hx).1
theorem without_toU {l : List Nat} (h : ∀ x, x ∈ l → x < 18446744073709551616) (v : Nat) : ((l.map toU).filter fun x => !x.n.testBit v).map (fun x => x.n) = GT.without l v := by
  unfold GT.without
  induction l with
  | nil => rfl
  | cons x l ih =>
    have h1 := toU_n (h x (by simp))
    have h2 := ih fun y hy => h y (by simp [hy])
    rw [List.map_cons, List.filter_cons, List.filter_cons, h1]
    cases x.testBit v with
    | true => simpa using h2
    | false => simpa [h1] using h2
set_option maxHeartbeats 8000000
set_option maxRecDepth 100000
theorem wo_gives (x : U64) (v Bv : Nat) (hv : v ≤ 63) (W : World) (hc : W.cell? ⟨Bv, 0, none⟩ = some (.int .i64 (v : Int))) : FnGives Try.prog 96 #[.pointer (some ⟨Bv, 0, none⟩)] #[encU x] (.bool (x.n.testBit v)) W := by
  have h1 := and_shl x.n v x.lt hv
  obtain ⟨b, hb⟩ : ∃ b, x.n.testBit v = b := ⟨_, rfl⟩
  rw [hb] at h1 ⊢
  unfold encU
  show Calls Try.prog 96 #[.int .u64 (x.n : Int), .pointer (some ⟨Bv, 0, none⟩)] W _
  generalize x.n = y at *
  clear hb hv
  go_enter Try.func96, Try.ntmps96
  go_wp2
  go_ret
  exact ⟨by rw [← h1]; rfl, 0, rfl⟩
theorem holds_own {base g cap e : Nat} {w : World} {xs : List Nat} (h64 : W64 xs) (h : w.ownsRow base e 1 (.slice (some ⟨g, 0, none⟩) xs.length cap) xs.length (nums .u64 (nI xs))) :
    Holds encU w g 0 (xs.map toU).toArray := by
  intro j hj
  have hj' : j < xs.length := by simpa using hj
  rcases h.2 with ⟨h1, _⟩ | ⟨g', cap', cur, h1, hb, hh, hn, hc, hs, ht⟩
  · cases h1
  · injection h1 with h1 h2 h3
    injection h1 with h1
    injection h1 with h1
    subst h1
    rw [Nat.mul_one] at ht
    have h4 : cur.toList[j]? = (nums .u64 (nI xs))[j]? := by
      rw [← ht, List.getElem?_take, if_pos hj']
    have h5 : (nums .u64 (nI xs))[j]? = some (.int .u64 ((xs[j] : Nat) : Int)) := by simp [nums, nI, hj']
    have h6 : cur[j]? = some (.int .u64 ((xs[j] : Nat) : Int)) := by
      rw [h5] at h4
      rwa [Array.getElem?_toList] at h4
    constructor
    · rw [Nat.zero_add]
      have := blkc hh j h6
      rw [this]
      unfold encU
      rw [getElem!_pos _ j hj]
      simp only [List.getElem_toArray, List.getElem_map]
      rw [toU_n (h64.mem (List.getElem_mem hj'))]
    · unfold World.frozen?
      rw [hh]
      rfl
theorem below_putRow {w : World} {B g : Nat} (d : Array U64) (q : Nat) (hg : B ≤ g) : Below B w (putRow encU (Sort.ahead w q) g 0 d) := by
  refine ⟨rfl, rfl, rfl, by rw [Go.Sort.size_putRow]; exact Nat.le_refl _, fun k hk => ?_⟩
  show (mapBlock _ _ _).heap[k]? = _
  unfold mapBlock
  simp only [Array.getElem?_modify]
  rw [if_neg (by omega)]
  rfl
theorem own_slice {w : World} {base e n : Nat} {v : Value} {xs : List Value} (h : w.ownsRow base e 1 v n xs) (hne : v ≠ .slice none 0 0) : ∃ g cap, v = .slice (some ⟨g, 0, none⟩) n cap ∧ base ≤ g ∧ n ≤ cap := by
  rcases h.2 with ⟨h1, _⟩ | ⟨g, cap, cur, h1, hb, hh, hn, _⟩
  · exact absurd h1 hne
  · exact ⟨g, cap, h1, hb, hn⟩
theorem del_calls (ws : List Nat) (v g cap B Bv : Nat) (w2 : World) (hv : v ≤ 63) (h64 : W64 ws) (h44 : ws.length ≤ 100) (hBv : Bv < B) (hB2 : B ≤ w2.heap.size) (hcv : w2.cell? ⟨Bv, 0, none⟩ = some (.int .i64 (v : Int))) (hg : B ≤ g) (hcap : ws.length ≤ cap)
    (ho : w2.ownsRow B 74 1 (.slice (some ⟨g, 0, none⟩) ws.length cap) ws.length (nums .u64 (nI ws))) :
    Calls Try.prog 94 #[.slice (some ⟨g, 0, none⟩) ws.length cap, .func (.func 96) #[] #[.pointer (some ⟨Bv, 0, none⟩)]] w2 fun e w' => e = .returned (.slice (some ⟨g, 0, none⟩) (nI (GT.without ws v)).length cap) ∧ Kd.C (Kd.int .u64) w' (some ⟨g, 0, none⟩) (nI (GT.without ws v)).length (nI (GT.without ws v)) ∧ Below B w2 w' := by
  have hsz : (ws.map toU).toArray.size = ws.length := by simp
  have hH := holds_own h64 ho
  have h := Try.slices_DeleteFunc encU (fun _ => rfl) (fun x : U64 => x.n.testBit v) 96 #[.pointer (some ⟨Bv, 0, none⟩)] (enters_of Try.func96 (by kernel_rfl) rfl) ⟨0, by decide⟩ (fun w => by kernel_rfl) g 0 cap (ws.map toU).toArray w2
      (fun W x hW => wo_gives x v Bv hv W ((hW.cell (p := ⟨Bv, 0, none⟩) (by show Bv < w2.heap.size; omega)).trans hcv))
      (fun n os dk x _ => wo_gives x v Bv hv _ (by
        unfold sortWorld
        rw [cell?_grow _ _ _ (by show Bv < (putRow _ _ _ _ _).heap.size; rw [Go.Sort.size_putRow]; show Bv < w2.heap.size; omega), cell?_putRow_other _ _ g 0 _ _ (Or.inl (by show Bv ≠ g; omega))]
        exact hcv))
      hH (by rw [hsz]; omega) (by rw [hsz]; exact hcap)
  rw [hsz] at h
  have hf := without_toU (fun x hx => h64.mem hx) v
  have hlf : (nI (GT.without ws v)).length = (((ws.map toU).toArray.toList.filter fun x => !x.n.testBit v)).length := by
    rw [nI_length, ← hf, List.length_map]
  have hle : (nI (GT.without ws v)).length ≤ ws.length := by
    rw [nI_length]
    exact List.length_filter_le _ _
  rw [hlf]
  refine h.mono ?_
  rintro e w' ⟨he, q, rfl⟩
  refine ⟨he, ?_, below_putRow _ _ hg⟩
  rw [← hlf]
  refine Kd.C_of_reads (d := (0 : Int)) (h1 := fun _ => rfl) ⟨rfl, by omega, fun hn => ⟨_, rfl, fun j hj => ?_⟩⟩
  have hadd : (⟨g, 0, none⟩ : Addr).add j = ⟨g, 0 + j, none⟩ := by
    unfold Addr.add
    by_cases e : j = 0
    · rw [if_pos e, e]
    · rw [if_neg e]
  rw [hadd]
  have hds : ((((ws.map toU).toArray.toList.filter fun x => !x.n.testBit v)) ++ List.replicate (ws.length - (((ws.map toU).toArray.toList.filter fun x => !x.n.testBit v)).length) (⟨0, by decide⟩ : U64)).toArray.size = (ws.map toU).toArray.size := by
    rw [List.size_toArray, List.length_append, List.length_replicate, hsz]
    omega
  have hcell := Go.Sort.cell?_putRow encU (Sort.ahead w2 q) g 0 (ws.map toU).toArray _ (fun j hj => hH j hj) hds j (by rw [hds, hsz]; omega)
  have hjf : j < (((ws.map toU).toArray.toList.filter fun x => !x.n.testBit v)).length := by rw [← hlf]; exact hj
  rw [hlf, hcell]
  unfold encU
  rw [getElem!_pos _ j (by rw [hds, hsz]; omega)]
  simp only [List.getElem_toArray]
  rw [List.getElem_append_left hjf]
  have hj2 : j < (GT.without ws v).length := by rw [nI_length] at hj; exact hj
  have hv2 : (GT.without ws v)[j]'hj2 = ((((ws.map toU).toArray.toList.filter fun x => !x.n.testBit v))[j]'hjf).n := by
    have e1 : (GT.without ws v)[j]? = some ((((ws.map toU).toArray.toList.filter fun x => !x.n.testBit v))[j]'hjf).n := by
      rw [← hf]
      rw [List.getElem?_map]
      rw [List.getElem?_eq_getElem hjf]
      rfl
    rw [List.getElem?_eq_getElem hj2] at e1
    injection e1
  rw [← hv2]
  simp [nI, List.getD_eq_getElem?_getD, hj2]
theorem without_calls2 (A : Option Addr) (c : Nat) (ws : List Nat) (v : Nat) (w : World) (hv : v ≤ 63) (h64 : W64 ws) (h0 : 0 < ws.length) (h44 : ws.length ≤ 100) (hr : Kd.C (Kd.int .u64) w A (nI ws).length (nI ws)) :
    Calls Try.prog 64 #[.slice A (nI ws).length c, .int .i64 (v : Int)] w fun e w' => ∃ A' c', e = .returned (.slice A' (nI (GT.without ws v)).length c') ∧ Kd.C (Kd.int .u64) w' A' (nI (GT.without ws v)).length (nI (GT.without ws v)) ∧ (nI (GT.without ws v)).length ≤ c' ∧ (∀ ad, A' = some ad → w.heap.size ≤ ad.block) ∧ Below w.heap.size w w' := by
  have hnl := nI_length ws
  obtain ⟨w1, hw1⟩ : ∃ w1, w.alloc (.cells #[.int .i64 (v : Int)] 3) = w1 := ⟨_, rfl⟩
  have hb1 : Below w.heap.size w w1 := by rw [← hw1]; exact below_alloc (Below.refl _ _) _
  have hs1 : w1.heap.size = w.heap.size + 1 := by rw [← hw1, World.size_alloc]
  have hcv : w1.cell? ⟨w.heap.size, 0, none⟩ = some (.int .i64 (v : Int)) := by rw [← hw1]; exact cell_new _ _ _ 0 rfl
  obtain ⟨b, off, rfl, hcells⟩ := ints_in hr (by omega)
  obtain ⟨i0, hi0, hz0, hz1, hz2⟩ := info_parts info_word
  have hclone : Calls Try.prog 95 #[.slice (some ⟨b, off, none⟩) ws.length c] w1 fun e w' => ∃ v', e = .returned v' ∧ w'.ownsRow w1.heap.size 74 1 v' ws.length (nums .u64 (nI ws)) ∧ v' ≠ .slice none 0 0 ∧ Below w1.heap.size w1 w' := Try.slices_Clone i0 (.int .u64 0) 1 8 hi0 hz0 hz1 hz2 rfl (by decide) (fun w => by kernel_rfl) b off ws.length c (nums .u64 (nI ws)) w1 (by rw [nums_length, hnl, Nat.mul_one]) (by unfold maxLen; omega) (by omega) (fun j u hu => by
    have hj : j < (nI ws).length := by
      have := (List.getElem?_eq_some_iff.1 hu).1
      rwa [nums_length] at this
    have h2 := hcells j hj
    rw [pw_cell_below hb1 h2]
    rw [← hu]
    simp [nums, hj]) (fun u hu => by obtain ⟨q, _, rfl⟩ := List.mem_map.1 hu; rfl)
  have HCl := Aside0.mk hclone
  have HDel := Aside0.mk (fun (w2 : World) (g cap : Nat) (hb2 : Below w1.heap.size w1 w2) hg hcap ho => del_calls ws v g cap w1.heap.size w.heap.size w2 hv h64 h44 (by omega) hb2.size (pw_cell_below hb2 hcv) hg hcap ho)
  have HB1 := Aside0.mk hb1
  have HS1 := Aside0.mk hs1
  have hlc : (nI (GT.without ws v)).length ≤ ws.length := by rw [nI_length]; exact List.length_filter_le _ _
  have HLc := Aside0.mk hlc
  generalize nI (GT.without ws v) = R at *
  rw [hnl]
  clear hclone hcells hr hi0 hz0 hz1 hz2 hcv h64 h0 h44 hb1 hs1 hlc hnl
  generalize nums .u64 (nI ws) = N0 at *
  generalize ws.length = n at *
  go_enter Try.func64, Try.ntmps64
  rw [← hw1] at *
  go_wp2_with (first | (go_at_call 95; (with_reducible refine (HCl.out).mono ?_); rintro e w2 ⟨v2, rfl, ho, hne, hb2⟩; obtain ⟨g, cap, e2, hg, hcap⟩ := own_slice ho hne; subst e2; have HDe := Aside0.mk (HDel.out w2 g cap hb2 hg hcap ho); have HB2 := Aside0.mk hb2; have HG := Aside0.mk hcap; have HGe := Aside0.mk hg; clear ho hne hb2 hg hcap) | (go_at_call 94; (with_reducible refine (HDe.out).mono ?_); rintro e w3 ⟨rfl, hc3, hb3⟩; have HC3 := Aside0.mk hc3; have HB3 := Aside0.mk hb3; clear hc3 hb3))
  go_ret
  exact ⟨_, _, rfl, HC3.out, Nat.le_trans HLc.out HG.out, (fun ad e => by injection e with e; subst e; have := HGe.out; have := HS1.out; show w.heap.size ≤ g; omega), HB1.out.trans (Below.mono (HB2.out.trans HB3.out) HB1.out.size)⟩
theorem without_calls (A : Option Addr) (c : Nat) (ws : List Nat) (v : Nat) (w : World) (hv : v ≤ 63) (h64 : W64 ws) (h0 : 0 < ws.length) (h44 : ws.length ≤ 100) (hr : Kd.C (Kd.int .u64) w A (nI ws).length (nI ws)) :
    Calls Try.prog 64 #[.slice A (nI ws).length c, .int .i64 (v : Int)] w fun e w' => ∃ A' c', e = .returned (.slice A' (nI (GT.without ws v)).length c') ∧ Kd.C (Kd.int .u64) w' A' (nI (GT.without ws v)).length (nI (GT.without ws v)) ∧ (nI (GT.without ws v)).length ≤ c' ∧ Below w.heap.size w w' := by
  refine (without_calls2 A c ws v w hv h64 h0 h44 hr).mono ?_
  rintro e w' ⟨A', c', h1, h2, h3, _, h4⟩
  exact ⟨A', c', h1, h2, h3, h4⟩
end Go.Proofs.Ytelfalicickelaa.P
namespace Go.Proofs.Ytelfalicickelaa.P
open Go.RowKit Go.Proofs.YtelfalicickelaaW.PrintWords Go.Proofs.YtelfalicickelaaW.PrintLast Go.Proofs.YtelfalicickelaaW.PrintMore
attribute [local go_sem] max2_int max_two
set_option linter.unusedVariables false
set_option linter.unusedSimpArgs false
def gate_word_many.f (a0 : Int) : Option (Int) := (bits_OnesCount64.f a0).bind fun t110 => (some t110)
set_option maxHeartbeats 8000000 in
set_option maxRecDepth 100000 in
theorem gate_word_many.calls (a0 : Int) (r : Int) (w : World) (h : gate_word_many.f a0 = some r) :
    Calls Try.prog 93 #[.int .u64 a0] w fun e w' => e = .returned (.int .i64 r) ∧ Drawn0 w w' := by
  have H : ((bits_OnesCount64.f a0).bind fun t110 => (some t110)) = some r := h
  clear h
  replace H := Option.bind_eq_some_iff.mp H
  obtain ⟨t110, A20, H⟩ := H
  replace H : (some t110) = some r := H
  have A2 := Aside0.mk A20
  clear A20
  obtain rfl := Option.some.inj H
  go_enter Try.func93, Try.ntmps93
  go_wp2_with (first | ((with_reducible refine gate_callee (f := 99) rfl ?_); refine goesL_ (some 4) rfl rfl Try.func99 (by kernel_rfl) rfl #[.int .u64 a0] rfl (by (try simp only [List.map_toArray, List.map_cons, List.map_nil]); first | done | rfl | (simp only [List.length_drop, List.length_take]; rfl)) ?_; (with_reducible refine (bits_OnesCount64.calls a0 t110 _ A2.out).mono ?_); rintro e w' ⟨rfl, ⟨nd, rfl⟩⟩; refine ⟨_, rfl, ?_⟩))
  go_ret
  exact ⟨by first | rfl | (simp; done) | (simp [*]; done), by repeat (first | exact Drawn0.refl _ | apply Drawn0.step)⟩
end Go.Proofs.Ytelfalicickelaa.P
set_option linter.unusedSimpArgs false
set_option linter.unusedVariables false
namespace Go.Proofs.Ytelfalicickelaa.P
open Go.Lib Go.RowKit Go.Proofs.YtelfalicickelaaW.PrintWords Go.Proofs.YtelfalicickelaaW.PrintLast Go.Proofs.YtelfalicickelaaW.PrintMore Go.Proofs.Ytelfalicickelaa.Kit
def cnt (a s : Nat) : Nat := Lib.onesCount (s &&& a)
def pickTo (a : Nat) (S : List Nat) : Nat → Nat
  | 0 => S.getD 0 0
  | i + 1 => if cnt a (S.getD (i + 1) 0) < cnt a (pickTo a S i) then S.getD (i + 1) 0 else pickTo a S i
def pickM (S : List Nat) (a : Nat) : Nat := pickTo a S (S.length - 1)
theorem pickTo_mem (a : Nat) (S : List Nat) : ∀ i, i < S.length → pickTo a S i ∈ S
  | 0, h => by
    unfold pickTo
    simp [List.getD_eq_getElem?_getD, h]
  | i + 1, h => by
    unfold pickTo
    split
    · simp [List.getD_eq_getElem?_getD, h]
    · exact pickTo_mem a S i (by omega)
theorem pickM_mem (S : List Nat) (a : Nat) (h : S ≠ []) : pickM S a ∈ S := pickTo_mem a S _ (by have := List.length_pos_iff.2 h; omega)
theorem many_f (x : Nat) (hx : x < 18446744073709551616) : gate_word_many.f (x : Int) = some ((Lib.onesCount x : Nat) : Int) := by
  unfold gate_word_many.f bits_OnesCount64.f
  rw [if_pos (by omega), Int.toNat_natCast]
  rfl
theorem cnt_le (a s : Nat) : cnt a s ≤ 64 := ones_le _
set_option maxHeartbeats 8000000
set_option maxRecDepth 100000
theorem less_calls (a x y Ba : Nat) (ha : a < 18446744073709551616) (hx : x < 18446744073709551616) (hy : y < 18446744073709551616) (W : World) (hc : W.cell? ⟨Ba, 0, none⟩ = some (.int .u64 (a : Int))) :
    Calls Try.prog 92 #[.int .u64 (x : Int), .int .u64 (y : Int), .pointer (some ⟨Ba, 0, none⟩)] W fun e w' => e = .returned (.int .i64 ((cnt a x : Int) - (cnt a y : Int))) ∧ Drawn0 W w' := by
  have h1 := many_f (x &&& a) (and_lt64 hx ha)
  have h2 := many_f (y &&& a) (and_lt64 hy ha)
  have e1 := andu64 x a hx ha
  have e2 := andu64 y a hy ha
  rw [← e1] at h1
  rw [← e2] at h2
  have H1 := Aside0.mk h1
  have H2 := Aside0.mk h2
  have hw : wrap64 (((Lib.onesCount (x &&& a) : Nat) : Int) - ((Lib.onesCount (y &&& a) : Nat) : Int)) = (cnt a x : Int) - (cnt a y : Int) := by
    have l1 := cnt_le a x
    have l2 := cnt_le a y
    unfold cnt at l1 l2 ⊢
    rw [w64 (by omega) (by omega)]
  have HW := Aside0.mk hw
  have k1 : ∀ n, (W.drewN n).cell? ⟨Ba, 0, none⟩ = some (.int .u64 (a : Int)) := fun _ => hc
  clear h1 h2 e1 e2 hw ha hx hy
  generalize Lib.onesCount (x &&& a) = p at *
  generalize Lib.onesCount (y &&& a) = q at *
  go_enter Try.func92, Try.ntmps92
  go_wp2
  (go_quiet (first | (go_at_call 93; exact Calls.quiet_of ((gate_word_many.calls _ _ _ H1.out).mono (by rintro e w' ⟨rfl, nd, rfl⟩; exact ⟨rfl, nd, rfl⟩))) | (go_at_call 93; exact Calls.quiet_of ((gate_word_many.calls _ _ _ H2.out).mono (by rintro e w' ⟨rfl, nd, rfl⟩; exact ⟨rfl, nd, rfl⟩)))))
  go_wp2
  go_ret
  exact ⟨by rw [← HW.out]; rfl, _, rfl⟩
theorem min_calls (a Ba : Nat) (S : List Nat) (A : Option Addr) (c : Nat) (w : World) (ha : a < 18446744073709551616) (h64 : W64 S) (h0 : 0 < S.length) (h100 : S.length ≤ 100) (hr : Kd.C (Kd.int .u64) w A (nI S).length (nI S)) (hc : w.cell? ⟨Ba, 0, none⟩ = some (.int .u64 (a : Int))) :
    Calls Try.prog 91 #[.slice A (nI S).length c, .func (.func 92) #[] #[.pointer (some ⟨Ba, 0, none⟩)]] w fun e w' => e = .returned (.int .u64 ((pickM S a : Nat) : Int)) ∧ Below w.heap.size w w' := by
  have hnl := nI_length S
  obtain ⟨ad, ead, hx0⟩ := Kd.at_int hr 0 (by omega) (by omega)
  subst ead
  have hx : w.cell? ad = some (.int .u64 ((S.getD 0 0 : Nat) : Int)) := by
    rw [show (0 : Int) = ((0 : Nat) : Int) from rfl, rd_nI] at hx0
    simpa [Addr.add] using hx0
  have hx0' : w.cell? (ad.add 0) = some (.int .u64 ((S.getD 0 0 : Nat) : Int)) := by
    rw [show (0 : Int) = ((0 : Nat) : Int) from rfl, rd_nI] at hx0
    exact hx0
  clear hx0
  have HR := Aside0.mk hr
  have H64 := Aside0.mk h64
  have HA := Aside0.mk ha
  have HC := Aside0.mk hc
  have HPk := Aside0.mk (show pickM S a = pickTo a S (S.length - 1) from rfl)
  obtain ⟨m0, hm0⟩ : ∃ m0, S.getD 0 0 = m0 := ⟨_, rfl⟩
  rw [hm0] at hx hx0'
  have HP0 := Aside0.mk (show m0 = pickTo a S 0 from hm0.symm)
  clear hm0
  rw [hnl]
  obtain ⟨n, hn⟩ : ∃ n, S.length = n := ⟨_, rfl⟩
  have HNl := Aside0.mk (And.intro hnl hn)
  rw [hn] at h0 h100 ⊢
  have HN := Aside0.mk (And.intro h0 h100)
  have c1 : decide ((n : Int) < 1) = false := decide_eq_false (by omega)
  have c2 : decide (n < 1) = false := decide_eq_false (by omega)
  have q1 := eq_true (show (0 : Int) < (n : Int) by omega)
  have q2 := eq_true (show 0 < n by omega)
  have HB := Aside0.mk (Below.refl w.heap.size w)
  clear hr h64 ha hc hn hnl h0 h100
  go_enter Try.func91, Try.ntmps91
  go_wp2
  clear hx hx0'
  go_loopw [5, 6] (fun v5 v6 w' => ∃ i : Nat, v6 = .int .i64 ((i + 1 : Nat) : Int) ∧ v5 = .int .u64 ((pickTo a S i : Nat) : Int) ∧ Aside0 (i < n) ∧ Aside0 (Below w.heap.size w w')) (fun _ v _ => n - (intOf v).toNat)
  case atStart => exact ⟨0, rfl, by rw [HP0.out], ⟨by have := HN.out; omega⟩, HB⟩
  case round =>
    clear HB c1 c2 q1 q2
    obtain ⟨i, rfl, rfl, Hi, HB⟩ := hrel
    by_cases ct : ((i + 1 : Nat) : Int) < (n : Int)
    · have c1b : decide (((i + 1 : Nat) : Int) < (n : Int)) = true := decide_eq_true ct
      have c1c : decide (i + 1 < n) = true := decide_eq_true (by omega)
      have Hct := Aside0.mk (show i + 1 < n by omega)
      have q1 := eq_true ct
      have q2 := eq_true (show i + 1 < n by omega)
      have q3 := eq_true (show (0 : Int) ≤ ((i + 1 : Nat) : Int) by omega)
      have r := Kd.C_below HR.out HB.out
      rw [HNl.out.1, HNl.out.2] at r
      obtain ⟨ad2, e2, hx⟩ := Kd.at_int r ((i + 1 : Nat) : Int) (by omega) ct
      injection e2 with e2
      subst e2
      rw [rd_nI, Int.toNat_natCast] at hx
      have hx' := hx
      rw [show ad.add (i + 1) = ⟨ad.block, ad.off + (i + 1), none⟩ by unfold Addr.add; rw [if_neg (by omega)]] at hx'
      have c1d : decide ((i : Int) + 1 < (n : Int)) = true := decide_eq_true (by omega)
      have q4 := eq_true (show (i : Int) + 1 < (n : Int) by omega)
      have q5 := eq_true (show (0 : Int) ≤ (i : Int) + 1 by omega)
      have hpl : pickTo a S i < 18446744073709551616 := H64.out.mem (pickTo_mem a S i (by rw [HNl.out.2]; omega))
      have hL := less_calls a (S.getD (i + 1) 0) (pickTo a S i) Ba HA.out (H64.out _) hpl wr (pw_cell_below HB.out HC.out)
      have HL := Aside0.mk hL
      have hst : pickTo a S (i + 1) = if cnt a (S.getD (i + 1) 0) < cnt a (pickTo a S i) then S.getD (i + 1) 0 else pickTo a S i := rfl
      generalize S.getD (i + 1) 0 = x at *
      generalize pickTo a S i = m at *
      have l1 := cnt_le a x
      have l2 := cnt_le a m
      have hw2 : wrap64 ((i : Int) + 1 + 1) = ((i + 1 + 1 : Nat) : Int) := by rw [w64 (by have := HN.out; omega) (by have := HN.out; omega)]; omega
      have HW2 := Aside0.mk hw2
      clear r ct hpl hL hw2
      by_cases hlt : cnt a x < cnt a m
      · rw [if_pos hlt] at hst
        have HSt := Aside0.mk hst
        have e1 : decide ((cnt a x : Int) - (cnt a m : Int) < 0) = true := decide_eq_true (by omega)
        generalize (cnt a x : Int) - (cnt a m : Int) = D at *
        clear hst hlt l1 l2
        go_wp2_with (go_at_call 92; (with_reducible refine (HL.out).mono ?_); rintro e w2 ⟨rfl, ⟨nd, rfl⟩⟩; replace hx := (show (wr.drewN nd).cell? _ = _ from hx); replace hx' := (show (wr.drewN nd).cell? _ = _ from hx'))
        go_roundw
        case rel => exact ⟨i + 1, by rw [HW2.out], by rw [HSt.out], Hct, ⟨pw_below_drewN HB.out _⟩⟩
        case measure => rw [HW2.out]; have := Hct.out; simp [intOf]; omega
      · rw [if_neg hlt] at hst
        have HSt := Aside0.mk hst
        have e1 : decide ((cnt a x : Int) - (cnt a m : Int) < 0) = false := decide_eq_false (by omega)
        generalize (cnt a x : Int) - (cnt a m : Int) = D at *
        clear hst hlt l1 l2
        go_wp2_with (go_at_call 92; (with_reducible refine (HL.out).mono ?_); rintro e w2 ⟨rfl, ⟨nd, rfl⟩⟩; replace hx := (show (wr.drewN nd).cell? _ = _ from hx); replace hx' := (show (wr.drewN nd).cell? _ = _ from hx'))
        go_roundw
        case rel => exact ⟨i + 1, by rw [HW2.out], by rw [HSt.out], Hct, ⟨pw_below_drewN HB.out _⟩⟩
        case measure => rw [HW2.out]; have := Hct.out; simp [intOf]; omega
    · have c1b : decide (((i + 1 : Nat) : Int) < (n : Int)) = false := decide_eq_false ct
      have c1c : decide (i + 1 < n) = false := decide_eq_false (by omega)
      have c1d : decide ((i : Int) + 1 < (n : Int)) = false := decide_eq_false (by omega)
      have hi : n - 1 = i := by have := Hi.out; omega
      have hpk := HPk.out
      rw [HNl.out.2, hi] at hpk
      have HPk2 := Aside0.mk hpk
      clear ct hpk hi
      go_wp2
      go_ret
      exact ⟨by rw [HPk2.out]; rfl, HB.out⟩
end Go.Proofs.Ytelfalicickelaa.P
set_option linter.unusedSimpArgs false
set_option linter.unusedVariables false
namespace Go.Proofs.Ytelfalicickelaa.P
open Go.Lib Go.RowKit Go.Proofs.YtelfalicickelaaW.PrintWords Go.Proofs.YtelfalicickelaaW.PrintLast Go.Proofs.YtelfalicickelaaW.PrintMore Go.Proofs.Ytelfalicickelaa.Kit
theorem without_len (S : List Nat) (v : Nat) : (GT.without S v).length ≤ S.length := List.length_filter_le _ _
set_option maxHeartbeats 8000000
set_option maxRecDepth 100000
theorem can_calls (a : Nat) (ha : a < 18446744073709551616) : ∀ (m : Nat), m ≤ 1000 → ∀ (S : List Nat) (A : Option Addr) (c : Nat) (w : World), W64 S → S.length ≤ 100 → Kd.C (Kd.int .u64) w A (nI S).length (nI S) →
    Calls Try.prog 62 #[.slice A (nI S).length c, .int .u64 (a : Int), .int .i64 (m : Int)] w fun e w' => e = .returned (.bool (GT.canP pickM a m S)) ∧ Below w.heap.size w w' := by
  intro m
  induction m with
  | zero =>
    intro _ S A c w h64 h100 hr
    have hnl := nI_length S
    obtain ⟨n, hn⟩ : ∃ n, S.length = n := ⟨_, rfl⟩
    rw [hnl, hn]
    have HB := Aside0.mk (Below.refl w.heap.size w)
    by_cases h0 : n = 0
    · have hS : S = [] := List.length_eq_zero_iff.1 (by omega)
      have HE := Aside0.mk (show GT.canP pickM a 0 S = true by rw [hS]; rfl)
      subst h0
      clear hr h64 h100 hnl hn hS
      go_enter Try.func62, Try.ntmps62
      go_wp2
      go_ret
      exact ⟨by rw [HE.out]; rfl, below_alloc HB.out _⟩
    · have HE := Aside0.mk (show GT.canP pickM a 0 S = false by
        unfold GT.canP
        cases S with
        | nil => exact absurd hn.symm h0
        | cons x S => rfl)
      have e1 : ((n : Int) == 0) = false := beq_eq_false_iff_ne.2 (by omega)
      have e2 : (n == 0) = false := beq_eq_false_iff_ne.2 (by omega)
      clear hr h64 h100 hnl hn h0
      go_enter Try.func62, Try.ntmps62
      go_wp2
      go_ret
      exact ⟨by rw [HE.out]; rfl, below_alloc HB.out _⟩
  | succ m ih =>
    intro hm S A c w h64 h100 hr
    have hnl := nI_length S
    have HB := Aside0.mk (Below.refl w.heap.size w)
    by_cases h0 : S.length = 0
    · have hS : S = [] := List.length_eq_zero_iff.1 (by omega)
      have HE := Aside0.mk (show GT.canP pickM a (m + 1) S = true by rw [hS]; rfl)
      have hn0 : (nI S).length = 0 := by omega
      rw [hn0]
      clear hr h64 h100 hnl h0 hS ih hn0
      go_enter Try.func62, Try.ntmps62
      go_wp2
      go_ret
      exact ⟨by rw [HE.out]; rfl, below_alloc HB.out _⟩
    · obtain ⟨w1, hw1⟩ : ∃ w1, w.alloc (.cells #[.int .u64 (a : Int)] 74) = w1 := ⟨_, rfl⟩
      have hb1 : Below w.heap.size w w1 := by rw [← hw1]; exact below_alloc (Below.refl _ _) _
      have hca : w1.cell? ⟨w.heap.size, 0, none⟩ = some (.int .u64 (a : Int)) := by rw [← hw1]; exact cell_new _ _ _ 0 rfl
      have HMi := Aside0.mk (min_calls a w.heap.size S A c w1 ha h64 (by omega) h100 (Kd.C_below hr hb1) hca)
      have hpm := pickM_mem S a (fun e => h0 (by rw [e]; rfl))
      have hpl : pickM S a &&& a < 18446744073709551616 := and_lt64 (h64.mem hpm) ha
      have hmf := members_f (pickM S a &&& a) hpl 65 (by omega)
      have hand := andu64 (pickM S a) a (h64.mem hpm) ha
      rw [← hand] at hmf
      have HMf := Aside0.mk hmf
      have hcp : GT.canP pickM a (m + 1) S = (GT.memb (pickM S a &&& a)).any fun v => GT.canP pickM a m (GT.without S v) := by
        show (S.isEmpty || _) = _
        rw [show S.isEmpty = false by cases S with | nil => exact absurd rfl h0 | cons x S => rfl, Bool.false_or]
      have hml : ∀ v, v ∈ GT.memb (pickM S a &&& a) → v ≤ 63 := fun v hv => by
        have := (List.mem_filter.1 hv).1
        rw [List.mem_range] at this
        omega
      have hmlen : (GT.memb (pickM S a &&& a)).length ≤ 64 := by
        unfold GT.memb
        refine Nat.le_trans (List.length_filter_le _ _) ?_
        rw [List.length_range]
        exact Nat.le_refl _
      rw [hcp]
      have HW := Aside0.mk (fun v (hv : v ≤ 63) W (hb : Below w.heap.size w W) => without_calls A c S v W hv h64 (by omega) h100 (Kd.C_below hr hb))
      have HIh := Aside0.mk (fun v A' c' W hr' => ih (by omega) (GT.without S v) A' c' W (without_W64 h64 v) (Nat.le_trans (without_len S v) h100) hr')
      unfold membI at HMf
      generalize GT.memb (pickM S a &&& a) = ms at *
      have e1 : (((nI S).length : Int) == 0) = false := beq_eq_false_iff_ne.2 (by omega)
      have e2 : ((nI S).length == 0) = false := beq_eq_false_iff_ne.2 (by omega)
      have e3 : (((m + 1 : Nat) : Int) == 0) = false := beq_eq_false_iff_ne.2 (by omega)
      have e4 : ((m : Int) + 1 == 0) = false := beq_eq_false_iff_ne.2 (by omega)
      have hwm : wrap64 ((m : Int) + 1 - 1) = (m : Int) := by rw [w64 (by omega) (by omega)]; omega
      have HWm := Aside0.mk hwm
      have HWi := Aside0.mk (show IntKind.i64.wrap (m : Int) = (m : Int) by rw [IntKind.wrap_i64]; omega)
      have HMl := Aside0.mk (And.intro hml hmlen)
      have HB1 := Aside0.mk hb1
      have HCa := Aside0.mk hca
      clear hr h64 h100 hnl h0 ih hpm hpl hmf hand hcp hml hmlen hwm hb1 hca
      go_enter Try.func62, Try.ntmps62
      rw [← hw1] at *
      go_wp2_with (first | (go_at_call 91; (with_reducible refine (HMi.out).mono ?_); rintro e w2 ⟨rfl, hb⟩; have hc2 := pw_cell_below hb HCa.out; have HB2 := Aside0.mk (HB1.out.trans (hb.mono HB1.out.size)); clear hb) | (go_at_call 68; (with_reducible refine (gate_members.calls 65 _ _ _ HMf.out).mono ?_); rintro e w3 ⟨v3, rfl, hR, hb⟩; obtain ⟨A3, c3, rfl⟩ := Kd.R_slice hR; have HR3 := Aside0.mk (Kd.R_reads' hR); have HC3 := Aside0.mk (pw_cell_below hb hc2); have HB3 := Aside0.mk (HB2.out.trans (hb.mono HB2.out.size)); clear hR hb))
      have hlm : (List.map (fun (j : Nat) => (j : Int)) ms).length = ms.length := List.length_map ..
      have HLm := Aside0.mk hlm
      obtain ⟨n, hn⟩ : ∃ n, ms.length = n := ⟨_, rfl⟩
      (try rw [hn])
      have HNn := Aside0.mk hn
      have HBw := Aside0.mk (Below.refl w3.heap.size w3)
      have HA0 := Aside0.mk (show (ms.take 0).any (fun v => GT.canP pickM a m (GT.without S v)) = false from rfl)
      clear hc2 hlm hn
      go_loopw [23] (fun v23 w' => ∃ i : Nat, v23 = .int .i64 (i : Int) ∧ Aside0 (i ≤ n) ∧ Aside0 ((ms.take i).any (fun v => GT.canP pickM a m (GT.without S v)) = false) ∧ Aside0 (Below w3.heap.size w3 w')) (fun v _ => n - (intOf v).toNat)
      case atStart => exact ⟨0, rfl, ⟨Nat.zero_le _⟩, HA0, HBw⟩
      case round =>
        clear HBw HA0
        obtain ⟨i, rfl, Hi, HAn, HBw⟩ := hrel
        by_cases ct : (i : Int) < (n : Int)
        · have c1b : decide ((i : Int) < (n : Int)) = true := decide_eq_true ct
          have c1c : decide (i < n) = true := decide_eq_true (by omega)
          have hi : i < ms.length := by have := HNn.out; omega
          have Hct := Aside0.mk (show i < n by omega)
          have q1 := eq_true ct
          have q2 := eq_true (show i < n by omega)
          have q3 := eq_true (show (0 : Int) ≤ (i : Int) by omega)
          have r := Kd.C_below HR3.out.2.2 HBw.out
          rw [HLm.out, HNn.out] at r
          obtain ⟨ad, e3', hx⟩ := Kd.at_int r (i : Int) (by omega) ct
          subst e3'
          have hv : rd (List.map (fun (j : Nat) => (j : Int)) ms) (i : Int) = ((ms[i] : Nat) : Int) := by
            rw [rd_get _ _ (by rw [List.length_map]; exact hi), List.getElem_map]
          rw [hv, Int.toNat_natCast] at hx
          have hv63 := HMl.out.1 ms[i] (List.getElem_mem hi)
          have hts : (ms.take (i + 1)).any (fun v => GT.canP pickM a m (GT.without S v)) = GT.canP pickM a m (GT.without S ms[i]) := by
            rw [List.take_succ_eq_append_getElem hi, List.any_append, HAn.out, Bool.false_or]
            simp
          have hall : GT.canP pickM a m (GT.without S ms[i]) = true → ms.any (fun v => GT.canP pickM a m (GT.without S v)) = true := fun h => List.any_eq_true.2 ⟨ms[i], List.getElem_mem hi, h⟩
          have hWo := HW.out ms[i] hv63
          have HBz := Aside0.mk (HB3.out.trans (HBw.out.mono HB3.out.size))
          have hIh := HIh.out ms[i]
          have hca := pw_cell_below HBw.out HC3.out
          generalize ms[i] = v at *
          obtain ⟨b, hb⟩ : ∃ b, GT.canP pickM a m (GT.without S v) = b := ⟨_, rfl⟩
          rw [hb] at hts hall
          simp only [hb] at hIh
          have HWo := Aside0.mk hWo
          have HIh2 := Aside0.mk hIh
          generalize nI (GT.without S v) = R at *
          have HBr := Aside0.mk (Below.refl wr.heap.size wr)
          have hsub : wrap64 (((m + 1 : Nat) : Int) - 1) = (m : Int) := by have := HWm.out; exact this
          go_wp2
          cases b with
          | true =>
            have HAl := Aside0.mk (hall rfl)
            clear hts hall hWo hIh ct r hi hv hv63 hb hsub
            go_region_held3 (fun w' => w'.cell? ⟨w.heap.size, 0, none⟩ = some (.int .u64 (a : Int))) (first | exact hca | exact hc4 | exact hc5 | go_keep) (first | (go_at_call 64; (with_reducible refine (HWo.out _ (below_drew1 HBz.out)).mono ?_); rintro e w4 ⟨A4, c4, rfl, hr4, hl4, hb4⟩; have hc4 := pw_cell_below hb4 (show wr.drew.cell? ⟨w.heap.size, 0, none⟩ = some (.int .u64 (a : Int)) from hca); have HR4 := Aside0.mk hr4; have HB4 := Aside0.mk hb4; clear hr4 hl4 hb4) | (go_at_call 62; rw [HWi.out]; (with_reducible refine (HIh2.out _ _ _ HR4.out).mono ?_); rintro e w5 ⟨rfl, hb5⟩; have hc5 := pw_cell_below hb5 hc4; have HB5 := Aside0.mk hb5; clear hb5))
            all_goals
              go_wp2
              go_ret
              exact ⟨by rw [HAl.out]; rfl, HBz.out.trans (Below.mono ((below_drew1 HBr.out).trans (Below.mono (HB4.out.trans (Below.mono HB5.out HB4.out.size)) (Nat.le_refl _))) HBz.out.size)⟩
          | false =>
            have HAn2 := Aside0.mk hts
            clear hts hall hWo hIh ct r hi hv hv63 hb hsub HAn
            go_region_held3 (fun w' => w'.cell? ⟨w.heap.size, 0, none⟩ = some (.int .u64 (a : Int))) (first | exact hca | exact hc4 | exact hc5 | go_keep) (first | (go_at_call 64; (with_reducible refine (HWo.out _ (below_drew1 HBz.out)).mono ?_); rintro e w4 ⟨A4, c4, rfl, hr4, hl4, hb4⟩; have hc4 := pw_cell_below hb4 (show wr.drew.cell? ⟨w.heap.size, 0, none⟩ = some (.int .u64 (a : Int)) from hca); have HR4 := Aside0.mk hr4; have HB4 := Aside0.mk hb4; clear hr4 hl4 hb4) | (go_at_call 62; rw [HWi.out]; (with_reducible refine (HIh2.out _ _ _ HR4.out).mono ?_); rintro e w5 ⟨rfl, hb5⟩; have hc5 := pw_cell_below hb5 hc4; have HB5 := Aside0.mk hb5; clear hb5))
            all_goals
              go_wp2
              have HBn := Aside0.mk (show Below w3.heap.size w3 w5 from HBw.out.trans (Below.mono ((below_drew1 HBr.out).trans (Below.mono (HB4.out.trans (Below.mono HB5.out HB4.out.size)) (Nat.le_refl _))) HBw.out.size))
              go_roundw
              case rel => exact ⟨i + 1, by rw [w64 (by have := Hct.out; have := HMl.out.2; have := HNn.out; omega) (by have := Hct.out; have := HMl.out.2; have := HNn.out; omega)]; rfl, ⟨Hct.out⟩, HAn2, HBn⟩
              case measure => rw [w64 (by have := Hct.out; have := HMl.out.2; have := HNn.out; omega) (by have := Hct.out; have := HMl.out.2; have := HNn.out; omega)]; have := Hct.out; simp [intOf]; omega
        · have c1b : decide ((i : Int) < (n : Int)) = false := decide_eq_false ct
          have c1c : decide (i < n) = false := decide_eq_false (by omega)
          have hal : ms.any (fun v => GT.canP pickM a m (GT.without S v)) = false := by
            have h := HAn.out
            rwa [List.take_of_length_le (by have := HNn.out; omega)] at h
          have HAl := Aside0.mk hal
          clear ct hal
          go_wp2
          go_ret
          exact ⟨by rw [HAl.out]; rfl, HB3.out.trans (HBw.out.mono HB3.out.size)⟩
end Go.Proofs.Ytelfalicickelaa.P
namespace Go.Proofs.Ytelfalicickelaa.P
open Go.RowKit Go.Proofs.YtelfalicickelaaW.PrintWords Go.Proofs.YtelfalicickelaaW.PrintLast Go.Proofs.YtelfalicickelaaW.PrintMore
attribute [local go_sem] max2_int max_two
set_option linter.unusedVariables false
set_option linter.unusedSimpArgs false
mutual
def gate_lean.l0 : Nat → List Int → List Int → List Int → Int → Int → Option (List Int)
  | 0, _, _, _, _, _ => none
  | k + 1, x0, x3, x9, x10, x11 => if x11 < x10 then (if 0 ≤ x11 then (if x11 < (x9.length : Int) then (gate_lean.l1 k x0 x3 x11 (rd x9 x11) false x9 x10 x11 x0 (x0.length : Int) 0) else (none)) else (none)) else (some x3)
def gate_lean.l1 : Nat → List Int → List Int → Int → Int → Bool → List Int → Int → Int → List Int → Int → Int → Option (List Int)
  | 0, _, _, _, _, _, _, _, _, _, _, _ => none
  | k + 1, x0, x3, x4, x5, x6, x9, x10, x11, x16, x17, x18 => if x18 < x17 then (if 0 ≤ x18 then (if x18 < (x16.length : Int) then (if x6 = true then (gate_lean.l1 k x0 x3 x4 x5 true x9 x10 x11 x16 x17 (wrap64 (x18 + 1))) else (if x4 = x18 then (gate_lean.l1 k x0 x3 x4 x5 false x9 x10 x11 x16 x17 (wrap64 (x18 + 1))) else (if (Go.bits .andNot .u64 (rd x16 x18) x5) = 0 then (if (rd x16 x18) = x5 then (gate_lean.l1 k x0 x3 x4 x5 (decide (x18 < x4)) x9 x10 x11 x16 x17 (wrap64 (x18 + 1))) else (gate_lean.l1 k x0 x3 x4 x5 true x9 x10 x11 x16 x17 (wrap64 (x18 + 1)))) else (gate_lean.l1 k x0 x3 x4 x5 false x9 x10 x11 x16 x17 (wrap64 (x18 + 1)))))) else (none)) else (none)) else (if x6 = true then (gate_lean.l0 k x0 x3 x9 x10 (wrap64 (x11 + 1))) else (if x3.length < 17592186044416 then (gate_lean.l0 k x0 (x3 ++ [x5]) x9 x10 (wrap64 (x11 + 1))) else (none)))
end
def gate_lean.f (k : Nat) (l0 : List Int) : Option (List Int) := gate_lean.l0 k l0 ([] : List Int) l0 (l0.length : Int) 0
set_option maxHeartbeats 8000000 in
set_option maxRecDepth 100000 in
theorem gate_lean.calls (k : Nat) (A0 : Option Addr) (c0 : Nat) (l0 : List Int) (r : List Int) (w : World) (hr0 : Kd.C (Kd.int .u64) w A0 l0.length l0) (hc0 : l0.length ≤ c0) (h : gate_lean.f k l0 = some r) :
    Calls Try.prog 61 #[.slice A0 l0.length c0] w fun e w' => ∃ v0_ : Value, e = .returned (v0_) ∧ Kd.R (Kd.int .u64) 74 w' w.heap.size (fun _ => True) v0_ r ∧ Below w.heap.size w w' := by
  have HR0 := Aside0.mk hr0
  have HC0 := Aside0.mk hc0
  clear hr0 hc0
  have HB := Aside0.mk (Below.refl w.heap.size w)
  have H : (gate_lean.l0 k l0 ([] : List Int) l0 (l0.length : Int) 0) = some r := h
  clear h
  have H' := Aside0.mk H
  clear H
  go_enter Try.func61, Try.ntmps61
  go_wp2
  go_loopg [3, 11] k (fun kq v3 v11 w' => ∃ (x3_1 : List Int) (x11_1 : Int), v11 = .int .i64 x11_1 ∧ Aside0 (gate_lean.l0 kq l0 x3_1 l0 (l0.length : Int) x11_1 = some r) ∧ Aside0 (kq ≤ k) ∧ Aside0 (Kd.R (Kd.int .u64) 74 w' w.heap.size (fun _ => True) v3 x3_1) ∧ Aside0 (Below w.heap.size w w'))
  case atStart => exact ⟨(([] : List Int)), (0), (by first | rfl | (simp; done) | (simp [*]; done)), H', ⟨Nat.le_refl _⟩, ⟨by first | exact Kd.R_nil _ _ _ _ _ | exact Kd.N_nil _ _ _ _ _ | exact Kd.V_nil _ _ _ _ _ | exact Kd.Q_nil _ _ _ _ _ | exact Kd.S_nil _ _ _ _ _⟩, ⟨by repeat (first | (with_reducible first | exact HB.out | apply below_alloc | apply pw_below_drewN | apply below_drew1) | exact HB.out)⟩⟩
  case round =>
    clear H'
    obtain ⟨x3_1, x11_1, rfl, HA, HK1, HO_3, HB⟩ := hrel
    cases gk with
    | zero => exact absurd HA.out (by simp [gate_lean.l0])
    | succ k1 =>
      have H := HA.out
      clear HA
      simp only [gate_lean.l0] at H
      by_cases c2 : x11_1 < (l0.length : Int)
      · rw [if_pos c2] at H
        have c2b0 : decide (x11_1 < (l0.length : Int)) = true := decide_eq_true c2
        clear c2
        by_cases c3 : 0 ≤ x11_1
        · rw [if_pos c3] at H
          have c3b0 : decide (0 ≤ x11_1) = true := decide_eq_true c3
          clear c3
          by_cases c4 : x11_1 < (l0.length : Int)
          · rw [if_pos c4] at H
            have c4b0 : decide (x11_1 < (l0.length : Int)) = true := decide_eq_true c4
            clear c4
            have H' := Aside0.mk H
            clear H
            have p105 : 0 ≤ (x11_1 : Int) := of_decide_eq_true (by first | (with_reducible assumption) | assumption)
            have q105 : x11_1 < (l0.length : Int) := of_decide_eq_true (by first | (with_reducible assumption) | assumption)
            obtain ⟨ad105, e105, hx105_0⟩ := Kd.at_int HR0.out x11_1 p105 q105
            cases e105
            replace hx105_0 := (HB.out.cell (World.block_lt_of_cell? w _ hx105_0)).trans hx105_0
            replace p105 := eq_true p105
            replace q105 := eq_true q105
            go_wp2
            go_loopg [6, 18] k1 (fun kq v6 v18 w' => ∃ (x6_2 : Bool) (x18_2 : Int), v6 = .bool x6_2 ∧ v18 = .int .i64 x18_2 ∧ Aside0 (gate_lean.l1 kq l0 x3_1 x11_1 (rd l0 x11_1) x6_2 l0 (l0.length : Int) x11_1 l0 (l0.length : Int) x18_2 = some r) ∧ Aside0 (kq ≤ k1) ∧ Aside0 (Kd.R (Kd.int .u64) 74 w' w.heap.size (fun _ => True) u3 x3_1) ∧ Aside0 (Below w.heap.size w w'))
            case atStart => exact ⟨(false), (0), (by first | rfl | (simp; done) | (simp [*]; done)), (by first | rfl | (simp; done) | (simp [*]; done)), H', ⟨Nat.le_refl _⟩, ⟨by (with_reducible repeat (first | apply Kd.R_alloc | apply Kd.R_drewN | apply Kd.R_drew)); first | exact HO_3.out | exact Kd.R_mono HO_3.out (fun k_ h_ => ne_own_len h_)⟩, ⟨by repeat (first | (with_reducible first | exact HB.out | apply below_alloc | apply pw_below_drewN | apply below_drew1) | exact HB.out)⟩⟩
            case round =>
              clear H'
              try clear p1
              try clear q1
              try clear hx1
              try clear c2
              try clear c2b0
              try clear p2
              try clear c3
              try clear c3b0
              try clear c4
              try clear c4b0
              try clear hx105_0
              try clear p105
              try clear q105
              obtain ⟨x6_2, x18_2, rfl, rfl, HA, HK2, HO_3, HB⟩ := hrel
              cases gk with
              | zero => exact absurd HA.out (by simp [gate_lean.l1])
              | succ k2 =>
                have H := HA.out
                clear HA
                simp only [gate_lean.l1] at H
                by_cases c5 : x18_2 < (l0.length : Int)
                · rw [if_pos c5] at H
                  have c5b0 : decide (x18_2 < (l0.length : Int)) = true := decide_eq_true c5
                  clear c5
                  by_cases c6 : 0 ≤ x18_2
                  · rw [if_pos c6] at H
                    have c6b0 : decide (0 ≤ x18_2) = true := decide_eq_true c6
                    clear c6
                    by_cases c7 : x18_2 < (l0.length : Int)
                    · rw [if_pos c7] at H
                      have c7b0 : decide (x18_2 < (l0.length : Int)) = true := decide_eq_true c7
                      clear c7
                      by_cases c8 : x6_2 = true
                      · subst c8
                        have H1 : (gate_lean.l1 k2 l0 x3_1 x11_1 (rd l0 x11_1) true l0 (l0.length : Int) x11_1 l0 (l0.length : Int) (wrap64 (x18_2 + 1))) = some r := by rw [if_pos rfl] at H; exact H
                        clear H
                        have H := H1
                        clear H1
                        have H' := Aside0.mk H
                        clear H
                        have p106 : 0 ≤ (x18_2 : Int) := of_decide_eq_true (by first | (with_reducible assumption) | assumption)
                        have q106 : x18_2 < (l0.length : Int) := of_decide_eq_true (by first | (with_reducible assumption) | assumption)
                        obtain ⟨ad106, e106, hx106_0⟩ := Kd.at_int HR0.out x18_2 p106 q106
                        obtain rfl : ad105 = ad106 := (by injection e106)
                        replace hx106_0 := (HB.out.cell (World.block_lt_of_cell? w _ hx106_0)).trans hx106_0
                        replace p106 := eq_true p106
                        replace q106 := eq_true q106
                        go_wp2
                        go_roundg k2
                        case measure => have := HK1.out; have := HK2.out; omega
                        case rel => exact ⟨(true), (wrap64 (x18_2 + 1)), (by first | rfl | (simp; done) | (simp [*]; done)), (by first | rfl | (simp; done) | (simp [*]; done)), H', ⟨by have := HK1.out; have := HK2.out; omega⟩, ⟨by (with_reducible repeat (first | apply Kd.R_alloc | apply Kd.R_drewN | apply Kd.R_drew)); first | exact HO_3.out | exact Kd.R_mono HO_3.out (fun k_ h_ => ne_own_len h_)⟩, ⟨by repeat (first | (with_reducible first | exact HB.out | apply below_alloc | apply pw_below_drewN | apply below_drew1) | exact HB.out)⟩⟩
                      · replace c8 := Bool.eq_false_iff.mpr c8
                        subst c8
                        have H1 : (if x11_1 = x18_2 then (gate_lean.l1 k2 l0 x3_1 x11_1 (rd l0 x11_1) false l0 (l0.length : Int) x11_1 l0 (l0.length : Int) (wrap64 (x18_2 + 1))) else (if (Go.bits .andNot .u64 (rd l0 x18_2) (rd l0 x11_1)) = 0 then (if (rd l0 x18_2) = (rd l0 x11_1) then (gate_lean.l1 k2 l0 x3_1 x11_1 (rd l0 x11_1) (decide (x18_2 < x11_1)) l0 (l0.length : Int) x11_1 l0 (l0.length : Int) (wrap64 (x18_2 + 1))) else (gate_lean.l1 k2 l0 x3_1 x11_1 (rd l0 x11_1) true l0 (l0.length : Int) x11_1 l0 (l0.length : Int) (wrap64 (x18_2 + 1)))) else (gate_lean.l1 k2 l0 x3_1 x11_1 (rd l0 x11_1) false l0 (l0.length : Int) x11_1 l0 (l0.length : Int) (wrap64 (x18_2 + 1))))) = some r := by rw [if_neg (show ¬ (false = true) by decide)] at H; exact H
                        clear H
                        have H := H1
                        clear H1
                        by_cases c9 : x11_1 = x18_2
                        · rw [if_pos c9] at H
                          have c9b0 : (x11_1 == x18_2) = true := beq_iff_eq.mpr c9
                          have c9b1 : (x11_1 != x18_2) = false := bne_eq_false_iff_eq.mpr c9
                          clear c9
                          have H' := Aside0.mk H
                          clear H
                          have p106 : 0 ≤ (x18_2 : Int) := of_decide_eq_true (by first | (with_reducible assumption) | assumption)
                          have q106 : x18_2 < (l0.length : Int) := of_decide_eq_true (by first | (with_reducible assumption) | assumption)
                          obtain ⟨ad106, e106, hx106_0⟩ := Kd.at_int HR0.out x18_2 p106 q106
                          obtain rfl : ad105 = ad106 := (by injection e106)
                          replace hx106_0 := (HB.out.cell (World.block_lt_of_cell? w _ hx106_0)).trans hx106_0
                          replace p106 := eq_true p106
                          replace q106 := eq_true q106
                          go_wp2
                          go_roundg k2
                          case measure => have := HK1.out; have := HK2.out; omega
                          case rel => exact ⟨(false), (wrap64 (x18_2 + 1)), (by first | rfl | (simp; done) | (simp [*]; done)), (by first | rfl | (simp; done) | (simp [*]; done)), H', ⟨by have := HK1.out; have := HK2.out; omega⟩, ⟨by (with_reducible repeat (first | apply Kd.R_alloc | apply Kd.R_drewN | apply Kd.R_drew)); first | exact HO_3.out | exact Kd.R_mono HO_3.out (fun k_ h_ => ne_own_len h_)⟩, ⟨by repeat (first | (with_reducible first | exact HB.out | apply below_alloc | apply pw_below_drewN | apply below_drew1) | exact HB.out)⟩⟩
                        · rw [if_neg c9] at H
                          have c9b0 : (x11_1 == x18_2) = false := beq_eq_false_iff_ne.mpr c9
                          have c9b1 : (x11_1 != x18_2) = true := bne_iff_ne.mpr c9
                          by_cases c10 : (Go.bits .andNot .u64 (rd l0 x18_2) (rd l0 x11_1)) = 0
                          · rw [if_pos c10] at H
                            have c10b0 : ((Go.bits .andNot .u64 (rd l0 x18_2) (rd l0 x11_1)) == 0) = true := beq_iff_eq.mpr c10
                            have c10b1 : ((Go.bits .andNot .u64 (rd l0 x18_2) (rd l0 x11_1)) != 0) = false := bne_eq_false_iff_eq.mpr c10
                            clear c10
                            by_cases c11 : (rd l0 x18_2) = (rd l0 x11_1)
                            · rw [if_pos c11] at H
                              have c11b0 : ((rd l0 x18_2) == (rd l0 x11_1)) = true := beq_iff_eq.mpr c11
                              have c11b1 : ((rd l0 x18_2) != (rd l0 x11_1)) = false := bne_eq_false_iff_eq.mpr c11
                              clear c11
                              have H' := Aside0.mk H
                              clear H
                              have p106 : 0 ≤ (x18_2 : Int) := of_decide_eq_true (by first | (with_reducible assumption) | assumption)
                              have q106 : x18_2 < (l0.length : Int) := of_decide_eq_true (by first | (with_reducible assumption) | assumption)
                              obtain ⟨ad106, e106, hx106_0⟩ := Kd.at_int HR0.out x18_2 p106 q106
                              obtain rfl : ad105 = ad106 := (by injection e106)
                              replace hx106_0 := (HB.out.cell (World.block_lt_of_cell? w _ hx106_0)).trans hx106_0
                              replace p106 := eq_true p106
                              replace q106 := eq_true q106
                              go_wp2
                              go_roundg k2
                              case measure => have := HK1.out; have := HK2.out; omega
                              case rel => exact ⟨(decide (x18_2 < x11_1)), (wrap64 (x18_2 + 1)), (by first | rfl | (simp; done) | (simp [*]; done)), (by first | rfl | (simp; done) | (simp [*]; done)), H', ⟨by have := HK1.out; have := HK2.out; omega⟩, ⟨by (with_reducible repeat (first | apply Kd.R_alloc | apply Kd.R_drewN | apply Kd.R_drew)); first | exact HO_3.out | exact Kd.R_mono HO_3.out (fun k_ h_ => ne_own_len h_)⟩, ⟨by repeat (first | (with_reducible first | exact HB.out | apply below_alloc | apply pw_below_drewN | apply below_drew1) | exact HB.out)⟩⟩
                            · rw [if_neg c11] at H
                              have c11b0 : ((rd l0 x18_2) == (rd l0 x11_1)) = false := beq_eq_false_iff_ne.mpr c11
                              have c11b1 : ((rd l0 x18_2) != (rd l0 x11_1)) = true := bne_iff_ne.mpr c11
                              have H' := Aside0.mk H
                              clear H
                              have p106 : 0 ≤ (x18_2 : Int) := of_decide_eq_true (by first | (with_reducible assumption) | assumption)
                              have q106 : x18_2 < (l0.length : Int) := of_decide_eq_true (by first | (with_reducible assumption) | assumption)
                              obtain ⟨ad106, e106, hx106_0⟩ := Kd.at_int HR0.out x18_2 p106 q106
                              obtain rfl : ad105 = ad106 := (by injection e106)
                              replace hx106_0 := (HB.out.cell (World.block_lt_of_cell? w _ hx106_0)).trans hx106_0
                              replace p106 := eq_true p106
                              replace q106 := eq_true q106
                              go_wp2
                              go_roundg k2
                              case measure => have := HK1.out; have := HK2.out; omega
                              case rel => exact ⟨(true), (wrap64 (x18_2 + 1)), (by first | rfl | (simp; done) | (simp [*]; done)), (by first | rfl | (simp; done) | (simp [*]; done)), H', ⟨by have := HK1.out; have := HK2.out; omega⟩, ⟨by (with_reducible repeat (first | apply Kd.R_alloc | apply Kd.R_drewN | apply Kd.R_drew)); first | exact HO_3.out | exact Kd.R_mono HO_3.out (fun k_ h_ => ne_own_len h_)⟩, ⟨by repeat (first | (with_reducible first | exact HB.out | apply below_alloc | apply pw_below_drewN | apply below_drew1) | exact HB.out)⟩⟩
                          · rw [if_neg c10] at H
                            have c10b0 : ((Go.bits .andNot .u64 (rd l0 x18_2) (rd l0 x11_1)) == 0) = false := beq_eq_false_iff_ne.mpr c10
                            have c10b1 : ((Go.bits .andNot .u64 (rd l0 x18_2) (rd l0 x11_1)) != 0) = true := bne_iff_ne.mpr c10
                            have H' := Aside0.mk H
                            clear H
                            have p106 : 0 ≤ (x18_2 : Int) := of_decide_eq_true (by first | (with_reducible assumption) | assumption)
                            have q106 : x18_2 < (l0.length : Int) := of_decide_eq_true (by first | (with_reducible assumption) | assumption)
                            obtain ⟨ad106, e106, hx106_0⟩ := Kd.at_int HR0.out x18_2 p106 q106
                            obtain rfl : ad105 = ad106 := (by injection e106)
                            replace hx106_0 := (HB.out.cell (World.block_lt_of_cell? w _ hx106_0)).trans hx106_0
                            replace p106 := eq_true p106
                            replace q106 := eq_true q106
                            go_wp2
                            go_roundg k2
                            case measure => have := HK1.out; have := HK2.out; omega
                            case rel => exact ⟨(false), (wrap64 (x18_2 + 1)), (by first | rfl | (simp; done) | (simp [*]; done)), (by first | rfl | (simp; done) | (simp [*]; done)), H', ⟨by have := HK1.out; have := HK2.out; omega⟩, ⟨by (with_reducible repeat (first | apply Kd.R_alloc | apply Kd.R_drewN | apply Kd.R_drew)); first | exact HO_3.out | exact Kd.R_mono HO_3.out (fun k_ h_ => ne_own_len h_)⟩, ⟨by repeat (first | (with_reducible first | exact HB.out | apply below_alloc | apply pw_below_drewN | apply below_drew1) | exact HB.out)⟩⟩
                    · rw [if_neg c7] at H
                      exact absurd H (by simp)
                  · rw [if_neg c6] at H
                    exact absurd H (by simp)
                · rw [if_neg c5] at H
                  have c5b0 : decide (x18_2 < (l0.length : Int)) = false := decide_eq_false c5
                  clear c5
                  by_cases c12 : x6_2 = true
                  · subst c12
                    have H1 : (gate_lean.l0 k2 l0 x3_1 l0 (l0.length : Int) (wrap64 (x11_1 + 1))) = some r := by rw [if_pos rfl] at H; exact H
                    clear H
                    have H := H1
                    clear H1
                    have H' := Aside0.mk H
                    clear H
                    go_wp2
                    go_roundg k2
                    case measure => have := HK1.out; have := HK2.out; omega
                    case rel => exact ⟨(x3_1), (wrap64 (x11_1 + 1)), (by first | rfl | (simp; done) | (simp [*]; done)), H', ⟨by have := HK1.out; have := HK2.out; omega⟩, ⟨by (with_reducible repeat (first | apply Kd.R_alloc | apply Kd.R_drewN | apply Kd.R_drew)); first | exact HO_3.out | exact Kd.R_mono HO_3.out (fun k_ h_ => ne_own_len h_)⟩, ⟨by repeat (first | (with_reducible first | exact HB.out | apply below_alloc | apply pw_below_drewN | apply below_drew1) | exact HB.out)⟩⟩
                  · replace c12 := Bool.eq_false_iff.mpr c12
                    subst c12
                    have H1 : (if x3_1.length < 17592186044416 then (gate_lean.l0 k2 l0 (x3_1 ++ [(rd l0 x11_1)]) l0 (l0.length : Int) (wrap64 (x11_1 + 1))) else (none)) = some r := by rw [if_neg (show ¬ (false = true) by decide)] at H; exact H
                    clear H
                    have H := H1
                    clear H1
                    by_cases c13 : x3_1.length < 17592186044416
                    · rw [if_pos c13] at H
                      have LMc13 := Aside0.mk c13
                      clear c13
                      obtain ⟨y107, hy107⟩ : ∃ y_ : List Int, y_ = (x3_1 ++ [(rd l0 x11_1)]) := ⟨_, rfl⟩
                      replace H : (gate_lean.l0 k2 l0 y107 l0 (l0.length : Int) (wrap64 (x11_1 + 1))) = some r := by first | (rw [hy107]; with_reducible exact H) | (have H2_ := (Option.bind_some _ _).symm.trans H; rw [hy107]; with_reducible exact H2_) | (have H2_ := (Option.bind_some _ _).symm.trans H; with_reducible exact H2_) | with_reducible exact H | (rw [hy107]; exact H) | exact H
                      have Ny107 := Aside0.mk hy107
                      clear hy107
                      have H' := Aside0.mk H
                      clear H
                      go_wp2_with (first | ((with_reducible refine gate_builtin (b := .append) (xs := #[.tmp 48, .tmp 50]) rfl ?_); at_builtin; refine Kd.R_append (Kd.int .u64) (w0 := w) w.heap.size rfl (.tmp 48) (.tmp 50) 72 74 (.int .u64 0) 8 rfl Try.underlying72 info74 rfl (by decide) (by omega) u3 x3_1 (rd l0 x11_1) [.int .u64 (rd l0 x11_1)] (fun _ => True) (fun _ => False) rfl rfl ?aP (fun _ hk => hk.elim) ?aF ?aO ?aB ?aS ?aL ?_; (case aP => exact rfl); (case aB => exact (by repeat (first | (with_reducible first | exact HB.out | apply below_alloc | apply pw_below_drewN | apply below_drew1) | exact HB.out))); (case aF => exact (fun _ _ => trivial)); (case aO => exact (by (with_reducible repeat (first | apply Kd.R_alloc | apply Kd.R_drewN | apply Kd.R_drew)); exact HO_3.out)); (case aS => exact (below_size (by repeat (first | (with_reducible first | exact HB.out | apply below_alloc | apply pw_below_drewN | apply below_drew1) | exact HB.out)))); (case aL => have := LMc13.out; omega); intro v108 w14 ho hb hg hat; rw [← Ny107.out] at ho; have n0_ := Aside0.mk (hb); have n1_ := Aside0.mk (ho); clear HB; clear HO_3; have HB := n0_; have HO109 := n1_; clear n0_ n1_; clear ho hb hg hat))
                      go_roundg k2
                      case measure => have := HK1.out; have := HK2.out; omega
                      case rel => exact ⟨(y107), (wrap64 (x11_1 + 1)), (by first | rfl | (simp; done) | (simp [*]; done)), H', ⟨by have := HK1.out; have := HK2.out; omega⟩, ⟨by (with_reducible repeat (first | apply Kd.R_alloc | apply Kd.R_drewN | apply Kd.R_drew)); first | exact HO109.out | exact Kd.R_mono HO109.out (fun k_ h_ => ne_own_len h_)⟩, ⟨by repeat (first | (with_reducible first | exact HB.out | apply below_alloc | apply pw_below_drewN | apply below_drew1) | exact HB.out)⟩⟩
                    · rw [if_neg c13] at H
                      exact absurd H (by simp)
          · rw [if_neg c4] at H
            exact absurd H (by simp)
        · rw [if_neg c3] at H
          exact absurd H (by simp)
      · rw [if_neg c2] at H
        have c2b0 : decide (x11_1 < (l0.length : Int)) = false := decide_eq_false c2
        clear c2
        obtain rfl := Option.some.inj H
        go_wp2
        go_ret
        exact ⟨_, by first | rfl | (simp [errW_none, errW_some] <;> rfl) | (simp [*, errW_none, errW_some] <;> rfl), by (with_reducible repeat (first | apply Kd.R_alloc | apply Kd.R_drewN | apply Kd.R_drew)); exact HO_3.out, by repeat (first | (with_reducible first | exact HB.out | apply below_alloc | apply pw_below_drewN | apply below_drew1) | exact HB.out)⟩
end Go.Proofs.Ytelfalicickelaa.P
set_option linter.unusedSimpArgs false
set_option linter.unusedVariables false
namespace Go.Proofs.Ytelfalicickelaa.P
open Go.Lib Go.RowKit Go.Proofs.YtelfalicickelaaW.PrintWords Go.Proofs.YtelfalicickelaaW.PrintLast Go.Proofs.YtelfalicickelaaW.PrintMore Go.Proofs.Ytelfalicickelaa.Kit
def andn (x y : Nat) : Nat := x ^^^ (x &&& y)
theorem testBit_andn (x y i : Nat) : (andn x y).testBit i = (x.testBit i && !y.testBit i) := by
  unfold andn
  rw [Nat.testBit_xor, Nat.testBit_and]
  cases x.testBit i <;> cases y.testBit i <;> rfl
theorem u64w0 {x : Nat} (h : x < 18446744073709551616) : IntKind.u64.wrap (x : Int) = (x : Int) := by
  rw [IntKind.wrap_u64]; omega
theorem andnu (x y : Nat) (hx : x < 18446744073709551616) (hy : y < 18446744073709551616) : Go.bits .andNot .u64 (x : Int) (y : Int) = ((andn x y : Nat) : Int) := by
  have hx' : x < 2 ^ 64 := by simpa using hx
  have hy' : y < 2 ^ 64 := by simpa using hy
  have hb : IntKind.u64.bits = 64 := rfl
  have he : ((BitVec.ofNat 64 x) &&& ~~~(BitVec.ofNat 64 y)).toNat = andn x y := by
    refine Nat.eq_of_testBit_eq fun i => ?_
    rw [testBit_andn, BitVec.toNat_and, Nat.testBit_and, BitVec.toNat_ofNat, Nat.mod_eq_of_lt hx']
    by_cases hi : i < 64
    · have h1 : ((~~~(BitVec.ofNat 64 y)).toNat).testBit i = !(y.testBit i) := by
        rw [BitVec.testBit_toNat, BitVec.getLsbD_not, ← BitVec.testBit_toNat, BitVec.toNat_ofNat, Nat.mod_eq_of_lt hy']
        simp [hi]
      rw [h1]
    · have h1 : x.testBit i = false := Nat.testBit_lt_two_pow (Nat.lt_of_lt_of_le hx' (Nat.pow_le_pow_right (by decide) (by omega)))
      rw [h1]; rfl
  have hlt : andn x y < 2 ^ 64 := Nat.xor_lt_two_pow hx' (Nat.and_lt_two_pow _ hy')
  simp only [Go.bits, BitVec.ofInt_natCast]
  rw [show (BitVec.ofNat IntKind.u64.bits x &&& ~~~BitVec.ofNat IntKind.u64.bits y).toNat = andn x y from he]
  exact u64w0 (by simpa using hlt)
theorem andn_lt {x y : Nat} (hx : x < 18446744073709551616) : andn x y < 18446744073709551616 := by
  have h1 : x < 2 ^ 64 := by simpa using hx
  have h2 : x &&& y < 2 ^ 64 := Nat.lt_of_le_of_lt Nat.and_le_left h1
  have := Nat.xor_lt_two_pow h1 h2
  simpa [andn] using this
def lessB (S : List Nat) (i j : Nat) : Bool := (j != i) && ((andn (S.getD j 0) (S.getD i 0) == 0) && ((S.getD j 0 != S.getD i 0) || decide (j < i)))
def needless (S : List Nat) (i : Nat) : Bool := (List.range S.length).any (lessB S i)
def leanFrom (S : List Nat) (i d : Nat) : List Nat := ((List.range' i d).filter fun i => !needless S i).map fun i => S.getD i 0
def leanN (S : List Nat) : List Nat := leanFrom S 0 S.length
theorem lean_l1 (S : List Nat) (h64 : W64 S) (h100 : S.length ≤ 100) (acc : List Int) (i : Nat) (hi : i < S.length) (hacc : acc.length ≤ 100) : ∀ (e j k : Nat) (fl : Bool), S.length - j = e → j ≤ S.length → e < k →
    gate_lean.l1 k (nI S) acc (i : Int) ((S.getD i 0 : Nat) : Int) fl (nI S) (S.length : Int) (i : Int) (nI S) (S.length : Int) (j : Int) = if (fl || (List.range' j e).any (lessB S i)) = true then gate_lean.l0 (k - e - 1) (nI S) acc (nI S) (S.length : Int) ((i + 1 : Nat) : Int) else gate_lean.l0 (k - e - 1) (nI S) (acc ++ [((S.getD i 0 : Nat) : Int)]) (nI S) (S.length : Int) ((i + 1 : Nat) : Int) := by
  intro e
  induction e with
  | zero =>
    intro j k fl he hj hk
    obtain ⟨k, rfl⟩ : ∃ q, k = q + 1 := ⟨k - 1, by omega⟩
    have hw : ∀ _ : Unit, wrap64 ((i : Int) + 1) = ((i + 1 : Nat) : Int) := fun _ => by rw [w64 (by omega) (by omega)]; omega
    simp only [gate_lean.l1]
    rw [if_neg (by omega), hw ()]
    cases fl with
    | true => simp
    | false =>
      rw [if_neg (by decide), if_pos (by omega)]
      simp
  | succ e ih =>
    intro j k fl he hj hk
    obtain ⟨k, rfl⟩ : ∃ q, k = q + 1 := ⟨k - 1, by omega⟩
    have hjl : j < S.length := by omega
    have hw : ∀ _ : Unit, wrap64 ((j : Int) + 1) = ((j + 1 : Nat) : Int) := fun _ => by rw [w64 (by omega) (by omega)]; omega
    simp only [gate_lean.l1]
    rw [if_pos (by omega), if_pos (by omega), nI_length, if_pos (by omega), hw ()]
    have hk2 : k + 1 - (e + 1) - 1 = k - e - 1 := by omega
    rw [hk2, List.range'_succ, List.any_cons]
    have h1 := fun b => ih (j + 1) k b (by omega) (by omega) (by omega)
    have hsj := h64 j
    have hsi := h64 i
    rw [rd_nI, andnu _ _ hsj hsi]
    cases fl with
    | true =>
      rw [if_pos rfl, h1 true]
      rw [Bool.true_or, Bool.true_or]
    | false =>
      rw [if_neg (by decide), Bool.false_or]
      by_cases hij : i = j
      · subst hij
        have hl : lessB S i i = false := by simp [lessB]
        rw [if_pos rfl, h1 false, hl, Bool.false_or]
      · rw [if_neg (by omega)]
        have hne : (j != i) = true := by simpa using (fun e : j = i => hij e.symm)
        by_cases hz : andn (S.getD j 0) (S.getD i 0) = 0
        · by_cases hxy : S.getD j 0 = S.getD i 0
          · have hl : lessB S i j = decide (j < i) := by
              unfold lessB
              rw [hne, hz, hxy]; simp
            rw [if_pos (by rw [hz]; rfl), if_pos (by rw [hxy]), h1, hl]
            have hd : decide ((j : Int) < (i : Int)) = decide (j < i) := by
              by_cases hlt : j < i
              · rw [decide_eq_true hlt, decide_eq_true (by omega)]
              · rw [decide_eq_false hlt, decide_eq_false (by omega)]
            rw [hd]
          · have hb : (S.getD j 0 != S.getD i 0) = true := by simpa using hxy
            have hl : lessB S i j = true := by
              unfold lessB
              rw [hne, hz, hb]; rfl
            rw [if_pos (by rw [hz]; rfl), if_neg (by omega), h1 true, hl, Bool.true_or]
        · have hb : (andn (S.getD j 0) (S.getD i 0) == 0) = false := by simpa using hz
          have hl : lessB S i j = false := by
            unfold lessB
            rw [hb, Bool.false_and, Bool.and_false]
          rw [if_neg (by omega), h1 false, hl, Bool.false_or]
theorem lean_l0 (S : List Nat) (h64 : W64 S) (h100 : S.length ≤ 100) : ∀ (d i k : Nat) (acc : List Int), S.length - i = d → i ≤ S.length → acc.length ≤ i → 103 * d + 1 ≤ k →
    gate_lean.l0 k (nI S) acc (nI S) (S.length : Int) (i : Int) = some (acc ++ nI (leanFrom S i d)) := by
  intro d
  induction d with
  | zero =>
    intro i k acc hd hi hacc hk
    obtain ⟨k, rfl⟩ : ∃ q, k = q + 1 := ⟨k - 1, by omega⟩
    simp only [gate_lean.l0]
    rw [if_neg (by omega)]
    simp [leanFrom, nI]
  | succ d ih =>
    intro i k acc hd hi hacc hk
    obtain ⟨k, rfl⟩ : ∃ q, k = q + 1 := ⟨k - 1, by omega⟩
    simp only [gate_lean.l0]
    rw [if_pos (by omega), if_pos (by omega), nI_length, if_pos (by omega), rd_nI]
    refine (lean_l1 S h64 h100 acc i (by omega) (by omega) S.length 0 k false (by omega) (by omega) (by omega)).trans ?_
    have hL : leanFrom S i (d + 1) = (if needless S i = true then leanFrom S (i + 1) d else S.getD i 0 :: leanFrom S (i + 1) d) := by
      unfold leanFrom
      rw [List.range'_succ, List.filter_cons]
      by_cases hn : needless S i = true
      · rw [if_pos hn, if_neg (by rw [hn]; decide)]
      · rw [if_neg hn, if_pos (by simpa using hn), List.map_cons]
    have hN : (false || (List.range' 0 S.length).any (lessB S i)) = needless S i := by
      unfold needless
      rw [Bool.false_or, List.range_eq_range']
    rw [hN, hL]
    by_cases hn : needless S i = true
    · rw [if_pos hn, if_pos hn]
      exact ih (i + 1) _ acc (by omega) (by omega) (by omega) (by omega)
    · rw [if_neg hn, if_neg hn, ih (i + 1) _ _ (by omega) (by omega) (by rw [List.length_append, List.length_singleton]; omega) (by omega)]
      simp [nI]
theorem lean_f (S : List Nat) (h64 : W64 S) (h100 : S.length ≤ 100) (k : Nat) (hk : 10400 ≤ k) : gate_lean.f k (nI S) = some (nI (leanN S)) := by
  unfold gate_lean.f
  rw [nI_length]
  have := lean_l0 S h64 h100 S.length 0 k [] (by omega) (by omega) (by simp) (by omega)
  rw [List.nil_append] at this
  exact this
theorem leanN_mem {S : List Nat} {s : Nat} (h : s ∈ leanN S) : s ∈ S := by
  obtain ⟨i, hi, rfl⟩ := List.mem_map.1 h
  have := List.mem_range'_1.1 (List.mem_filter.1 hi).1
  rw [List.getD_eq_getElem?_getD, List.getElem?_eq_getElem (by omega)]
  exact List.getElem_mem _
theorem leanN_len (S : List Nat) : (leanN S).length ≤ S.length := by
  unfold leanN leanFrom
  rw [List.length_map]
  exact Nat.le_trans (List.length_filter_le _ _) (by rw [List.length_range']; exact Nat.le_refl _)
theorem leanN_W64 {S : List Nat} (h : W64 S) : W64 (leanN S) := W64.of fun x hx => h.mem (leanN_mem hx)
end Go.Proofs.Ytelfalicickelaa.P
set_option linter.unusedSimpArgs false
set_option linter.unusedVariables false
namespace Go.Proofs.Ytelfalicickelaa.P
open Go.Lib Go.RowKit Go.Proofs.YtelfalicickelaaW.PrintWords Go.Proofs.YtelfalicickelaaW.PrintLast Go.Proofs.YtelfalicickelaaW.PrintMore Go.Proofs.Ytelfalicickelaa.Kit
def shownF (c : GT.C) : List Nat := whereN c (fun x => x != 0)
def shownW (c : GT.C) : List Nat := (shownF c).map (GT.shows c)
theorem shownF_len (N : Nat) (ls : List S40) (os : List Int) (h : N ≤ 6 ∧ ls.length ≤ 16) : (shownF (toC N ls os)).length ≤ 44 := by
  unfold shownF whereN
  refine Nat.le_trans (List.length_filter_le _ _) ?_
  rw [List.length_range, toC_lines]
  omega
theorem shownF_lt {N : Nat} {ls : List S40} {os : List Int} {f : Nat} (hf : f ∈ shownF (toC N ls os)) : f < 2 * (N + ls.length) := by
  unfold shownF whereN at hf
  have := (List.mem_filter.1 hf).1
  rw [List.mem_range, toC_lines] at this
  exact this
set_option maxHeartbeats 8000000
set_option maxRecDepth 100000
theorem shown_calls {w : World} {g N : Nat} {ls : List S40} {os : List Int} (hok : okC (N : Int) ls os = true) (hC : CircAt w g N ls os) :
    Calls Try.prog 60 #[.pointer (some ⟨g, 0, none⟩)] w fun e w' => ∃ v0_ v1_ : Value, e = .returned (.tuple #[v0_, v1_]) ∧ Kd.R (Kd.int .u64) 74 w' w.heap.size (fun _ => True) v0_ (nI (shownW (toC N ls os))) ∧ Kd.C (Kd.int .i64) w' (match v1_ with | .slice A _ _ => A | _ => none) (nI (shownF (toC N ls os))).length (nI (shownF (toC N ls os))) ∧ (∃ A c, v1_ = .slice A (nI (shownF (toC N ls os))).length c) ∧ Below w.heap.size w w' := by
  have hs := okC_small hok
  have hN6 : N ≤ 6 ∧ ls.length ≤ 16 := by omega
  have HS := Aside0.mk (fun W (hb : Below w.heap.size w W) f hf => shows_calls f hf hok (hC.keep hb))
  have HW := Aside0.mk (where_shown0 hok hC)
  have HLt := Aside0.mk (fun f => shows_lt64 hN6.1 ls os f)
  have hfl : ∀ f, f ∈ shownF (toC N ls os) → f ≤ 100 := fun f hf => by have := shownF_lt hf; omega
  have HFl := Aside0.mk hfl
  have HF44 := Aside0.mk (shownF_len N ls os hN6)
  rw [show whereN (toC N ls os) (fun x => x != 0) = shownF (toC N ls os) from rfl] at HW
  rw [show shownW (toC N ls os) = (shownF (toC N ls os)).map (GT.shows (toC N ls os)) from rfl]
  generalize shownF (toC N ls os) = fs at *
  generalize toC N ls os = cc at *
  have HB := Aside0.mk (Below.refl w.heap.size w)
  clear hs hok hC hN6 hfl
  go_enter Try.func60, Try.ntmps60
  go_wp2_with (first | (go_at_call 71; (with_reducible refine (HW.out).mono ?_); rintro e w1 ⟨v1, rfl, hR, hb⟩; obtain ⟨A1, c1, rfl⟩ := Kd.R_slice hR; have HR1 := Aside0.mk (Kd.R_reads' hR); have HB1 := Aside0.mk hb; clear hR hb))
  have hnl := nI_length fs
  have HNl := Aside0.mk hnl
  obtain ⟨n, hn⟩ : ∃ n, fs.length = n := ⟨_, rfl⟩
  have HNn := Aside0.mk hn
  rw [hn] at hnl
  have HNm := Aside0.mk hnl
  have HBw := Aside0.mk (Below.refl w1.heap.size w1)
  have HT0 := Aside0.mk (show (fs.take 0).map (GT.shows cc) = [] from rfl)
  rw [hnl]
  clear hn hnl
  go_loopw [4, 12] (fun v4 v12 w' => ∃ i : Nat, v12 = .int .i64 (i : Int) ∧ Aside0 (i ≤ n) ∧ Aside0 (Kd.R (Kd.int .u64) 74 w' w1.heap.size (fun _ => True) v4 (nI ((fs.take i).map (GT.shows cc)))) ∧ Aside0 (Below w1.heap.size w1 w')) (fun _ v _ => n - (intOf v).toNat)
  case atStart => exact ⟨0, rfl, ⟨Nat.zero_le _⟩, ⟨Kd.R_nil _ _ _ _ _⟩, HBw⟩
  case round =>
    clear HBw HT0
    obtain ⟨i, rfl, Hi, HR, HBw⟩ := hrel
    by_cases ct : (i : Int) < (n : Int)
    · have c1b : decide ((i : Int) < (n : Int)) = true := decide_eq_true ct
      have c1c : decide (i < n) = true := decide_eq_true (by omega)
      have hi : i < fs.length := by have := HNn.out; omega
      have Hct := Aside0.mk (show i < n by omega)
      have q1 := eq_true ct
      have q2 := eq_true (show i < n by omega)
      have q3 := eq_true (show (0 : Int) ≤ (i : Int) by omega)
      have r := Kd.C_below HR1.out.2.2 HBw.out
      rw [HNm.out] at r
      obtain ⟨ad, e3', hx⟩ := Kd.at_int r (i : Int) (by omega) ct
      subst e3'
      rw [rd_nI, Int.toNat_natCast, show fs.getD i 0 = fs[i] by simp [List.getD_eq_getElem?_getD, hi]] at hx
      have hSw := HS.out wr (HB1.out.trans (HBw.out.mono HB1.out.size)) fs[i] (HFl.out _ (List.getElem_mem hi))
      have htk : nI ((fs.take i).map (GT.shows cc)) ++ [((GT.shows cc fs[i] : Nat) : Int)] = nI ((fs.take (i + 1)).map (GT.shows cc)) := by
        rw [List.take_succ_eq_append_getElem hi, List.map_append, List.map_cons, List.map_nil, nI_snoc]
      have HTK := Aside0.mk htk
      have hlen : (nI ((fs.take i).map (GT.shows cc))).length < 17592186044416 := by rw [nI_length, List.length_map, List.length_take]; have := HF44.out; omega
      have HLen := Aside0.mk hlen
      have HSw := Aside0.mk hSw
      generalize GT.shows cc fs[i] = x at *
      generalize fs[i] = f at *
      have HBr := Aside0.mk (Below.refl wr.heap.size wr)
      clear ct r hi hSw htk hlen
      go_wp2_with (first | (go_at_call 74; (with_reducible refine (HSw.out).mono ?_); rintro e w4 ⟨rfl, hb⟩; have HB4 := Aside0.mk (HBw.out.trans (hb.mono HBw.out.size)); have HR4 := Aside0.mk (Kd.R_below HR.out hb); clear hb) | ((with_reducible refine gate_builtin (b := .append) (xs := #[.tmp 16, .tmp 20]) rfl ?_); at_builtin; refine Kd.R_append (Kd.int .u64) (w0 := w1) w1.heap.size rfl (.tmp 16) (.tmp 20) 72 74 (.int .u64 0) 8 rfl Try.underlying72 info74 rfl (by decide) (by omega) _ (nI ((fs.take i).map (GT.shows cc))) (x : Int) [.int .u64 (x : Int)] (fun _ => True) (fun _ => False) rfl rfl ?aP (fun _ hk => hk.elim) ?aF ?aO ?aB ?aS ?aL ?_; (case aP => exact rfl); (case aB => exact (by repeat (first | (with_reducible first | exact HB4.out | apply below_alloc | apply pw_below_drewN | apply below_drew1) | exact HB4.out))); (case aF => exact (fun _ _ => trivial)); (case aO => exact (by (with_reducible repeat (first | apply Kd.R_alloc | apply Kd.R_drewN | apply Kd.R_drew)); exact HR4.out)); (case aS => exact (below_size (by repeat (first | (with_reducible first | exact HB4.out | apply below_alloc | apply pw_below_drewN | apply below_drew1) | exact HB4.out)))); (case aL => have := HLen.out; omega); intro v243 w7 ho hb hg hat; rw [HTK.out] at ho; have HB9 := Aside0.mk (hb); have HR9 := Aside0.mk (ho); clear HB4; clear HR4; clear ho hb hg hat))
      go_roundw
      case rel => exact ⟨i + 1, by rw [w64 (by have := Hct.out; have := HF44.out; have := HNn.out; omega) (by have := Hct.out; have := HF44.out; have := HNn.out; omega)]; rfl, ⟨Hct.out⟩, HR9, HB9⟩
      case measure => rw [w64 (by have := Hct.out; have := HF44.out; have := HNn.out; omega) (by have := Hct.out; have := HF44.out; have := HNn.out; omega)]; have := Hct.out; simp [intOf]; omega
    · have c1b : decide ((i : Int) < (n : Int)) = false := decide_eq_false ct
      have c1c : decide (i < n) = false := decide_eq_false (by omega)
      have hal : fs.take i = fs := List.take_of_length_le (by have := HNn.out; omega)
      have HAl := Aside0.mk hal
      clear ct hal
      go_wp2
      go_ret2
      refine ⟨_, _, rfl, ?_, ?_, ⟨A1, c1, by rw [HNm.out]; rfl⟩, HB1.out.trans (HBw.out.mono HB1.out.size)⟩
      · have h := R_low HR.out HB1.out.size
        rw [HAl.out] at h
        exact h
      · exact Kd.C_below HR1.out.2.2 HBw.out
end Go.Proofs.Ytelfalicickelaa.P
set_option linter.unusedSimpArgs false
set_option linter.unusedVariables false
namespace Go.Proofs.Ytelfalicickelaa.P
open Go.Lib Go.RowKit Go.Proofs.YtelfalicickelaaW.PrintWords Go.Proofs.YtelfalicickelaaW.PrintLast Go.Proofs.YtelfalicickelaaW.PrintMore Go.Proofs.Ytelfalicickelaa.Kit
def aw (V : Nat) : Nat → Nat
  | 0 => 2 ^ V - 1
  | v + 1 => andn (aw V v) (2 ^ v)
theorem aw_lt {V : Nat} (hV : V ≤ 64) : ∀ v, aw V v < 18446744073709551616
  | 0 => by
    have := Nat.pow_le_pow_right (n := 2) (by decide) hV
    have h2 : 2 ^ 64 = 18446744073709551616 := by decide
    have := Nat.two_pow_pos V
    show 2 ^ V - 1 < _
    omega
  | v + 1 => andn_lt (aw_lt hV v)
theorem aw_bit (V u : Nat) : ∀ v, (aw V v).testBit u = decide (v ≤ u ∧ u < V)
  | 0 => by
    show (2 ^ V - 1).testBit u = _
    rw [Nat.testBit_two_pow_sub_one]
    simp
  | v + 1 => by
    show (andn (aw V v) (2 ^ v)).testBit u = _
    rw [testBit_andn, aw_bit V u v, Nat.testBit_two_pow]
    by_cases h1 : v ≤ u ∧ u < V
    · by_cases h2 : v = u
      · have h3 : ¬ (v + 1 ≤ u ∧ u < V) := by omega
        simp [h1, h2, h3]
      · have h3 : v + 1 ≤ u ∧ u < V := by omega
        simp [h1, h2, h3]
    · have h3 : ¬ (v + 1 ≤ u ∧ u < V) := by omega
      rw [decide_eq_false h1, decide_eq_false h3]; rfl
def canA (V v : Nat) (S : List Nat) (m : Nat) : Bool := GT.canP pickM (aw V v) m S
theorem canA_iff {V : Nat} (hV : V ≤ 64) (v : Nat) (S : List Nat) (m : Nat) : canA V v S m = true ↔ GT.Cov (fun u => v ≤ u ∧ u < V) S m := by
  unfold canA
  rw [GT.canP_iff (fun S a h => pickM_mem S a h) (by simpa using aw_lt hV v)]
  have he : (fun u => (aw V v).testBit u = true) = fun u => v ≤ u ∧ u < V := by
    funext u
    rw [aw_bit]
    exact propext ⟨fun h => of_decide_eq_true h, fun h => decide_eq_true h⟩
  rw [he]
def upTo (p : Nat → Bool) : Nat → Nat → Nat
  | 0, k => k
  | d + 1, k => if p k = true then k else upTo p d (k + 1)
theorem upTo_spec (p : Nat → Bool) : ∀ (d k : Nat), p (k + d) = true → p (upTo p d k) = true ∧ (∀ j, k ≤ j → j < upTo p d k → p j = false) ∧ upTo p d k ≤ k + d
  | 0, k, h => ⟨h, fun j h1 h2 => by unfold upTo at h2; omega, Nat.le_refl _⟩
  | d + 1, k, h => by
    unfold upTo
    by_cases hp : p k = true
    · rw [if_pos hp]
      exact ⟨hp, fun j h1 h2 => by omega, by omega⟩
    · rw [if_neg hp]
      obtain ⟨h1, h2, h3⟩ := upTo_spec p d (k + 1) (by rw [show k + 1 + d = k + (d + 1) by omega]; exact h)
      refine ⟨h1, fun j a b => ?_, by omega⟩
      by_cases he : j = k
      · rw [he]; simpa using hp
      · exact h2 j (by omega) b
theorem cov_len {V : Nat} : ∀ S : List Nat, (∀ s, s ∈ S → s ≠ 0 ∧ s < 2 ^ V) → GT.Cov (fun u => 0 ≤ u ∧ u < V) S S.length
  | [], _ => GT.cov_nil _ _
  | s :: S, h => by
    obtain ⟨vs, h1, h2, h3⟩ := cov_len S (fun t ht => h t (List.mem_cons_of_mem _ ht))
    obtain ⟨hs0, hsV⟩ := h s (List.mem_cons_self ..)
    obtain ⟨u, hu⟩ := Nat.exists_testBit_of_ne_zero hs0
    have huV : u < V := by
      apply Classical.byContradiction
      intro hc
      have := Nat.testBit_lt_two_pow (Nat.lt_of_lt_of_le hsV (Nat.pow_le_pow_right (by decide) (Nat.le_of_not_lt hc)))
      rw [this] at hu; cases hu
    refine ⟨u :: vs, by simp only [List.length_cons]; omega, fun w hw => ?_, fun t ht => ?_⟩
    · rcases List.mem_cons.1 hw with rfl | hw
      · exact ⟨Nat.zero_le _, huV⟩
      · exact h2 w hw
    · rcases List.mem_cons.1 ht with rfl | ht
      · exact ⟨u, List.mem_cons_self .., hu⟩
      · obtain ⟨v, hv, hb⟩ := h3 t ht
        exact ⟨v, List.mem_cons_of_mem _ hv, hb⟩
def fewM (V : Nat) (S : List Nat) : Nat := upTo (canA V 0 S) 44 0
theorem few_spec {V : Nat} (hV : V ≤ 64) {S : List Nat} (h : ∀ s, s ∈ S → s ≠ 0 ∧ s < 2 ^ V) (hl : S.length ≤ 44) : canA V 0 S (fewM V S) = true ∧ (∀ j, j < fewM V S → canA V 0 S j = false) ∧ fewM V S ≤ 44 ∧ GT.Least V 0 S (fewM V S) := by
  have h0 : canA V 0 S (0 + 44) = true := by
    rw [canA_iff hV]
    exact GT.Cov.mono (cov_len S h) (fun _ h => h) (by omega)
  obtain ⟨h1, h2, h3⟩ := upTo_spec (canA V 0 S) 44 0 h0
  refine ⟨h1, fun j hj => h2 j (Nat.zero_le _) hj, by unfold fewM; omega, (canA_iff hV 0 S _).1 h1, fun k hk => ?_⟩
  apply Classical.byContradiction
  intro hc
  have := h2 k (Nat.zero_le _) (by unfold fewM at hc; omega)
  rw [(canA_iff hV 0 S k).2 hk] at this
  cases this
def fewL (c : GT.C) : List Nat := leanN (shownW c)
def fewR (c : GT.C) : List Nat := GT.firsts (canA (2 ^ c.n)) (2 ^ c.n) 0 (fewL c) (fewM (2 ^ c.n) (fewL c))
theorem fewL_ok (c : GT.C) : ∀ s, s ∈ fewL c → s ≠ 0 ∧ s < 2 ^ 2 ^ c.n := fun s hs => by
  have h1 := leanN_mem hs
  unfold shownW shownF whereN at h1
  obtain ⟨f, hf, rfl⟩ := List.mem_map.1 h1
  have := (List.mem_filter.1 hf).2
  refine ⟨by simpa using this, GT.wd_lt _ _⟩
def gate_Fewest.f (a0 : Int) (l1 : List S40) (l2 : List Int) : Option (List Int × Int) := some (if okC a0 l1 l2 = true then (nI (fewR (toC a0.toNat l1 l2)), 0) else ([], 2))
end Go.Proofs.Ytelfalicickelaa.P
