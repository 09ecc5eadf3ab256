/-
  The walk of the law InflateBlocks.
  Conditions: the argument reads as a list of bytes.
-/
import Derived.Test.YtpfalaghggjbjaaYL
import Derived.BigQuiet
namespace Go.Proofs.Ytpfalaghggjbjaa
open Go.RowKit

abbrev noBlk : Blk := ⟨0, false, 0, 0⟩
theorem cK_get (l : List Blk) (i k : Nat) (hi : i < l.length) (hk : k < 4) : (cK l)[i * 4 + k]? = (bk (l.getD i noBlk))[k]? := by
  induction l generalizing i with
  | nil => simp at hi
  | cons p l ih =>
    have e : cK (p :: l) = bk p ++ cK l := by simp [cK]
    have hp : (bk p).length = 4 := rfl
    rw [e]
    cases i with
    | zero => rw [List.getElem?_append_left (by omega)]; simp
    | succ i =>
      rw [List.getElem?_append_right (by omega), hp, show (i + 1) * 4 + k - 4 = i * 4 + k by omega, ih i (by simpa using hi)]
      simp
/-- The four cells of a block. -/
theorem rk_cells {w : World} {b off : Nat} {l : List Blk} (hc : ∀ j (h : j < (cK l).length), w.cell? ⟨b, off + j, none⟩ = some (cK l)[j]) {i : Nat} (hi : i < l.length) :
    w.cell? ⟨b, off + i * 4, none⟩ = some (.int .i64 ((l.getD i noBlk).kind : Int)) ∧ w.cell? ⟨b, off + i * 4 + 1, none⟩ = some (.bool (l.getD i noBlk).last) ∧
      w.cell? ⟨b, off + i * 4 + 2, none⟩ = some (.int .i64 ((l.getD i noBlk).at_ : Int)) ∧ w.cell? ⟨b, off + i * 4 + 3, none⟩ = some (.int .i64 ((l.getD i noBlk).out : Int)) := by
  have hl := length_cK l
  have get : ∀ k (hk : k < 4), w.cell? ⟨b, off + (i * 4 + k), none⟩ = (bk (l.getD i noBlk))[k]? := fun k hk => by
    have hj : i * 4 + k < (cK l).length := by omega
    rw [hc _ hj, ← cK_get l i k hi hk, List.getElem?_eq_getElem hj]
  exact ⟨get 0 (by omega), get 1 (by omega), get 2 (by omega), get 3 (by omega)⟩

/-- What the law asks of the blocks, in plain terms. -/
structure Blks (l : List Blk) (T N : Nat) : Prop where
  pos : 0 < l.length
  one : ∀ i, i < l.length → (l.getD i noBlk).kind ≤ 2 ∧ (l.getD i noBlk).at_ < T ∧ (l.getD i noBlk).last = decide (i + 1 = l.length)
  first : (l.getD 0 noBlk).at_ = 0
  next : ∀ i, i + 1 < l.length → (l.getD i noBlk).at_ < (l.getD (i + 1) noBlk).at_
  sum : (l.map (·.out)).sum = N
theorem blks_of {b : List UInt8} {n : Nat} {l : List Blk} {t : Nat} {o : List UInt8} (h : blocksM b n 0 [] = .ok l t o) : Blks l (8 * ((t + 7) / 8)) o.length := by
  obtain ⟨hc, h3, hs, k, x, rfl, hx, hk⟩ := blocksM_inv h
  have e : ∀ i (hi : i < (k ++ [x]).length), (k ++ [x]).getD i noBlk = (k ++ [x])[i] := fun i hi => by simp [List.getD, List.getElem?_eq_getElem hi]
  refine ⟨by simp, fun i hi => ?_, ?_, fun i hi => ?_, hs⟩
  · have h1 := hc.kind _ (List.getElem_mem hi)
    rw [e i hi]
    refine ⟨h1.1, by omega, ?_⟩
    by_cases hik : i < k.length
    · rw [List.getElem_append_left hik, hk _ (List.getElem_mem _)]
      simp; omega
    · have : i = k.length := by simp at hi; omega
      subst this
      simp [hx]
  · rw [e 0 (by simp)]; exact hc.first (by simp)
  · rw [e i (by omega), e (i + 1) hi]; exact hc.next i hi
theorem Blks.short {l : List Blk} {n N m : Nat} (B : Blks l (8 * n) N) (hn : n ≤ m) : l.length ≤ 8 * m := by
  have h : ∀ i, i < l.length → i ≤ (l.getD i noBlk).at_ := by
    intro i
    induction i with
    | zero => intro _; omega
    | succ i ih => intro hi; have := ih (by omega); have := B.next i hi; omega
  have := B.pos
  have h1 := h (l.length - 1) (by omega)
  have h2 := (B.one (l.length - 1) (by omega)).2.1
  omega
theorem sum_take {l : List Blk} {i : Nat} (hi : i < l.length) : ((l.take (i + 1)).map (·.out)).sum = ((l.take i).map (·.out)).sum + (l.getD i noBlk).out := by
  rw [List.take_add_one, List.getElem?_eq_getElem hi, List.map_append, List.sum_append]
  congr 1
  simp [List.getD, List.getElem?_eq_getElem hi]
theorem sum_take_le {l : List Blk} {i : Nat} : ((l.take i).map (·.out)).sum ≤ (l.map (·.out)).sum := by
  conv => rhs; rw [← List.take_append_drop i l]
  rw [List.map_append, List.sum_append]; omega

set_option maxRecDepth 100000 in
set_option maxHeartbeats 8000000 in
theorem inflateBlocks_any (a : Option Addr) (N cap : Nat) (l : List UInt8) (w : World) (h : RB w a N cap l) :
    Calls Try.prog 7 #[.slice a N cap] w (TruePost w) := by
  obtain rfl := RB.len h
  by_cases hlt : 3000 < l.length
  · have d : decide ((3000 : Int) < l.length) = true := by simp; omega
    go_enter Try.func7, Try.ntmps7
    go_wp2_with (go_at_call 30; go_must (refine (lives4_any _).mono ?_); rintro e w1 ⟨rfl, hb1⟩)
    go_ret
    exact ⟨rfl, hb1⟩
  have d : decide ((3000 : Int) < l.length) = false := by simp; omega
  have hI : ∀ w, RB w a l.length cap l → Calls Try.prog 31 #[.slice a l.length cap, .int .i64 20000] w (RetInf w (inflateP l 20000)) := fun w h => inflate_any a l.length cap 20000 l w (by omega) (by decide) h
  have hK : ∀ w, RB w a l.length cap l → Calls Try.prog 32 #[.slice a l.length cap, .int .i64 20000] w (RetBlks w (blocksP l 20000)) := fun w h => blocks_any a l.length cap 20000 l w (by omega) (by decide) h
  have hen := @ends_len l 20000
  rcases @inflateP_inv l 20000 with ⟨bs, t, O, hok, e1, e2⟩ | ⟨er, hno, e1, e2⟩
  · have B := blks_of hok
    rw [e1] at hI hen
    rw [e2] at hK
    obtain ⟨hn1, hn2, hn3⟩ := hen rfl
    simp only at hn1 hn2 hn3
    clear hok e1 e2 hen
    generalize (t + 7) / 8 = n at *
    have g4 : ((bs.length : Int) == 0) = false := by simp; have := B.pos; intro hh; subst hh; simp at this
    have hbsl := B.short hn2
    go_enter Try.func7, Try.ntmps7
    go_wp2_with (first
      | (go_at_call 30; go_must (refine (lives4_any _).mono ?_); rintro e w1 ⟨rfl, hb1⟩)
      | (go_at_call 31; go_must (refine (hI w1 (rd_below0 h hb1)).mono ?_); rintro e w2 ⟨a2, c2, rfl, ho2, hb2⟩; have b2 := hb1.trans (hb2.mono hb1.size))
      | (go_at_call 32; go_must (refine (hK w2 (rd_below0 h b2)).mono ?_); rintro e w3 ⟨a3, c3, rfl, ho3, hb3⟩; have b3 := b2.trans (hb3.mono b2.size)))
    obtain ⟨b1, o1, i1, k1'⟩ := Rd.open ho3.rk (P := Try.prog) 38 42 Try.underlying38 (by kernel_rfl)
    have k1 := fun i hi => @rk_cells w3 b1 o1 bs k1' i hi
    clear k1'
    have K1 := Lib.hid k1
    clear k1
    go_loopw [8, 9] (fun u v wr => ∃ (i k s : Nat), u = .int .i64 s ∧ v = .int .i64 i ∧ i ≤ bs.length ∧ s = ((bs.take i).map (·.out)).sum ∧ wr = w3.drewN k) (fun _ v _ => bs.length - (intOf v).toNat)
    case atStart => exact ⟨0, 0, 0, rfl, rfl, by omega, rfl, rfl⟩
    case round =>
      obtain ⟨i, k, s, rfl, rfl, hi, hs, rfl⟩ := hrel
      by_cases hlt2 : i < bs.length
      · obtain ⟨m0, m1, m2⟩ := B.one i hlt2
        have hs1 := sum_take hlt2
        have hs2 := B.sum
        have hs3 := @sum_take_le bs (i + 1)
        obtain ⟨q0, q1, q2, q3⟩ := K1.out i hlt2
        rw [← hs] at hs1
        obtain ⟨s', hs'⟩ : ∃ s', s' = ((bs.take (i + 1)).map (·.out)).sum := ⟨_, rfl⟩
        rw [← hs'] at hs1 hs3
        rw [hs2] at hs3
        have Hs' := Lib.hid hs'
        clear hs' hs hs2
        have d1 : decide ((i : Int) < bs.length) = true := by simp; omega
        have dL : decide ((i : Int) = (bs.length : Int) - 1) = decide (i + 1 = bs.length) := by rw [Bool.eq_iff_iff]; simp; omega
        clear dL
        by_cases hi0 : i = 0
        · have hat : (bs.getD i noBlk).at_ = 0 := by rw [hi0]; exact B.first
          generalize bs.getD i noBlk = x at *
          obtain ⟨x0, x1, x2, x3⟩ := x
          simp only at q0 q1 q2 q3 m0 m1 m2 hs1 hat
          subst hat hi0
          simp only [Nat.zero_mul, Nat.add_zero] at q0 q1 q2 q3
          have f0 : decide ((x0 : Int) < 0) = false := by simp
          have f3 : decide ((x3 : Int) < 0) = false := by simp
          have f1 : decide ((2 : Int) < x0) = false := by simp; omega
          have f2 : decide ((8 : Int) * n ≤ 0) = false := by simp; omega
          have hbsp := B.pos
          rcases Nat.lt_or_ge (0 + 1) bs.length with hla | hla
          · have fE : ((0 : Int) == (bs.length : Int) - 1) = false := by simp; omega
            have hx : x1 = false := by rw [m2]; simp; omega
            subst hx
            clear m2
            go_wp2
            simp only [List.append_eq, List.cons_append, List.nil_append]
            go_quiet (fail)
            go_wp2
            exact ⟨⟨0 + 1, k + nq, s', by rw [hs1]; push_cast; rfl, by go_num, by omega, Hs'.out, rfl⟩, by simp [intOf]; omega⟩
          · have fE : ((0 : Int) == (bs.length : Int) - 1) = true := by simp; omega
            have hx : x1 = true := by rw [m2]; simp; omega
            subst hx
            clear m2
            go_wp2
            simp only [List.append_eq, List.cons_append, List.nil_append]
            go_quiet (fail)
            go_wp2
            exact ⟨⟨0 + 1, k + nq, s', by rw [hs1]; push_cast; rfl, by go_num, by omega, Hs'.out, rfl⟩, by simp [intOf]; omega⟩
        · obtain ⟨j, rfl⟩ : ∃ j, i = j + 1 := ⟨i - 1, by omega⟩
          obtain ⟨-, -, r2, -⟩ := K1.out j (by omega)
          have hat := B.next j hlt2
          generalize bs.getD (j + 1) noBlk = x at *
          generalize bs.getD j noBlk = y at *
          obtain ⟨x0, x1, x2, x3⟩ := x
          obtain ⟨y0, y1, y2, y3⟩ := y
          simp only at q0 q1 q2 q3 m0 m1 m2 hs1 hat r2
          have f0 : decide ((x0 : Int) < 0) = false := by simp
          have f3 : decide ((x3 : Int) < 0) = false := by simp
          have f1 : decide ((2 : Int) < x0) = false := by simp; omega
          have f2 : decide ((8 : Int) * n ≤ x2) = false := by simp; omega
          have f4 : decide (x2 ≤ y2) = false := by simp; omega
          have hj1 : ((j + 1 : Nat) : Int) = (j : Int) + 1 := by omega
          have f5 : (((j : Int) + 1) == 0) = false := by simp; omega
          have f6 : decide ((0 : Int) < (j : Int) + 1) = true := by simp
          have hbsp := B.pos
          rcases Nat.lt_or_ge (j + 1 + 1) bs.length with hla | hla
          · have fE : (((j : Int) + 1) == (bs.length : Int) - 1) = false := by simp; omega
            have hx : x1 = false := by rw [m2]; simp; omega
            subst hx
            clear m2
            go_wp2
            simp only [List.append_eq, List.cons_append, List.nil_append]
            go_quiet (fail)
            go_wp2
            exact ⟨⟨j + 1 + 1, k + nq, s', by rw [hs1]; push_cast; rfl, by go_num, by omega, Hs'.out, rfl⟩, by simp [intOf]; omega⟩
          · have fE : (((j : Int) + 1) == (bs.length : Int) - 1) = true := by simp; omega
            have hx : x1 = true := by rw [m2]; simp; omega
            subst hx
            clear m2
            go_wp2
            simp only [List.append_eq, List.cons_append, List.nil_append]
            go_quiet (fail)
            go_wp2
            exact ⟨⟨j + 1 + 1, k + nq, s', by rw [hs1]; push_cast; rfl, by go_num, by omega, Hs'.out, rfl⟩, by simp [intOf]; omega⟩
      · have hil : i = bs.length := by omega
        subst hil
        have hs2 := B.sum
        rw [List.take_length, hs2] at hs
        subst hs
        have hpos := B.pos
        go_wp2
        go_ret
        exact ⟨rfl, below_drewN b3 k⟩
  · have hne := (errs_blocks lots [] hno).1
    rw [e1] at hI
    rw [e2] at hK
    have d3 : ((er : Int) != 0) = true := by simp; omega
    go_enter Try.func7, Try.ntmps7
    go_wp2_with (first
      | (go_at_call 30; go_must (refine (lives4_any _).mono ?_); rintro e w1 ⟨rfl, hb1⟩)
      | (go_at_call 31; go_must (refine (hI w1 (rd_below0 h hb1)).mono ?_); rintro e w2 ⟨a2, c2, rfl, ho2, hb2⟩; have b2 := hb1.trans (hb2.mono hb1.size))
      | (go_at_call 32; go_must (refine (hK w2 (rd_below0 h b2)).mono ?_); rintro e w3 ⟨a3, c3, rfl, ho3, hb3⟩; have b3 := b2.trans (hb3.mono b2.size)))
    go_ret
    exact ⟨rfl, b3⟩
end Go.Proofs.Ytpfalaghggjbjaa
