/-
  The walks of inflate's lone, none, of lengths' closure.
  Conditions: as the reader's; at most 400 numbers.
-/
import Derived.Test.YtpfalaghggjbjaaYF
namespace Go.Proofs.Ytpfalaghggjbjaa
open Go.RowKit

/-- Lengths' closure: as many numbers more. -/
def AgainPost (pl B : Nat) (w : World) (al : Option Addr) (l : List Nat) (e : Ending) (w' : World) : Prop :=
  ∃ al' cl', e = .returned (.tuple #[]) ∧ w'.heap[pl]? = some (.cells #[.slice al' l.length cl'] 53 (0, 0)) ∧ OI w' B al' l.length cl' (natI l) ∧ Stp pl w al w' al'
theorem natI_rep (l : List Nat) (j x : Nat) : natI (l ++ List.replicate j x) ++ [(x : Int)] = natI (l ++ List.replicate (j + 1) x) := by
  simp [natI, List.replicate_succ', List.map_append]

set_option maxRecDepth 100000 in
set_option maxHeartbeats 2000000 in
theorem again_fits {pl pn pr B n : Nat} {al : Option Addr} {cl : Nat} {l : List Nat} (x times : Nat) {w : World} (hl : w.heap[pl]? = some (.cells #[.slice al l.length cl] 53 (0, 0))) (hn : w.heap[pn]? = some (.cells #[.int .i64 (n : Int)] 3 (0, 0)))
    (ho : OI w B al l.length cl (natI l)) (hB : B ≤ w.heap.size) (hfit : l.length + times ≤ n) (hn9 : n ≤ 400) :
    Calls Try.prog 112 #[.int .i64 (x : Int), .int .i64 (times : Int), .pointer (some ⟨pl, 0, none⟩), .pointer (some ⟨pn, 0, none⟩), .pointer (some ⟨pr, 0, none⟩)] w (AgainPost pl B w al (l ++ List.replicate times x)) := by
  have c1 := cell_at (j := 0) hl rfl
  have c2 := cell_at (j := 0) hn rfl
  have d1 : decide ((n : Int) < l.length + times) = false := by simp; omega
  have hS0 := Stp.refl pl w al
  have hll : l.length ≤ 400 := by omega
  go_enter Try.func112, Try.ntmps112
  go_wp2
  clear c1 c2
  go_loopw [16] (fun u wr => ∃ (j : Nat) (aq : Option Addr) (cq : Nat), u = .int .i64 j ∧ j ≤ times ∧ wr.heap[pl]? = some (.cells #[.slice aq (l.length + j) cq] 53 (0, 0)) ∧ OI wr B aq (l.length + j) cq (natI (l ++ List.replicate j x)) ∧ Stp pl w al wr aq)
    (fun u _ => times - (intOf u).toNat)
  case atStart => exact ⟨0, al, cl, rfl, by omega, hl, by simpa using ho, hS0⟩
  case round =>
    obtain ⟨j, aq, cq, rfl, hj, hlq, hoq, hS⟩ := hrel
    by_cases hjt : j < times
    · have c1 := cell_at (j := 0) hlq rfl
      have hz := hS.mod.size
      have hpz := lt_at hlq
      go_wp2_with (at_builtin; go_must (refine wpList_appI rfl _ _ rfl B aq (l.length + j) cq _ rfl (OI.alloc hoq _) _ 1 1 [(x : Int)] rfl (ri_new _ _ _ _ rfl) (by omega) (by simp; omega) ?_); intro a' c' w3 ho3 hg3
                   have hne : blk aq ≠ some pl := own_ne_cells hoq hlq (by decide)
                   have hl3 := heap_grew hg3 (heap_alloc hlq _) hne
                   have f3 := free_at (j := 0) hl3
                   have c3 := cell_at (j := 0) hl3 rfl)
      go_roundw
      case rel =>
        refine ⟨j + 1, a', c', by go_num, by omega, heap_set (j := 0) hl3 _, ?_, hS.trans ⟨?_, ?_⟩⟩
        · rw [← natI_rep]
          exact oi_set ho3 (own_ne_cells ho3 hl3 (by decide)) _
        · exact (((Mod.refl _ wr).alloc _).trans hg3.mod (fun _ _ h => h) (fun k _ hk => .inr hk)).setCell _ _ (fun _ => .inl rfl)
        · rcases hg3.at_ with q | ⟨g, q, q2⟩
          · exact .inl q
          · exact .inr ⟨g, q, by simp at q2; omega⟩
      case measure => simp [intOf]; omega
    · have hjt : j = times := by omega
      subst hjt
      go_wp2
      go_end0
      have e : (l ++ List.replicate j x).length = l.length + j := by simp
      exact ⟨aq, cq, rfl, by rw [e]; exact hlq, by rw [e]; exact hoq, hS⟩

section
variable {p B : Nat} {a0 : Option Addr} {cap : Nat} {b : List UInt8} {m : Nat} {w : World} {t : Nat} {o : List UInt8} {er : Nat} {a : Option Addr}
set_option maxRecDepth 100000 in
set_option maxHeartbeats 2000000 in
theorem again_over {pl pn pr n : Nat} {al : Option Addr} {cl nl : Nat} (x : Int) (times : Nat) (h : Rr p B a0 cap b m w t o 0 a) (hl : w.heap[pl]? = some (.cells #[.slice al nl cl] 53 (0, 0))) (hn : w.heap[pn]? = some (.cells #[.int .i64 (n : Int)] 3 (0, 0)))
    (hr : w.heap[pr]? = some (.cells #[.pointer (some ⟨p, 0, none⟩)] 84 (0, 0))) (hover : n < nl + times) (hn9 : nl ≤ 400) (ht : times ≤ 400) :
    Calls Try.prog 112 #[.int .i64 x, .int .i64 (times : Int), .pointer (some ⟨pl, 0, none⟩), .pointer (some ⟨pn, 0, none⟩), .pointer (some ⟨pr, 0, none⟩)] w (RNo p B a0 cap b m w a 5 (.tuple #[])) := by
  have c1 := cell_at (j := 0) hl rfl
  have c2 := cell_at (j := 0) hn rfl
  have c3 := cell_at (j := 0) hr rfl
  have d1 : decide ((n : Int) < nl + times) = true := by simp; omega
  go_enter Try.func112, Try.ntmps112
  go_wp2_with (go_at_call 88; go_must (refine (fails_live 5 h).mono ?_); rintro e w4 ⟨rfl, hS4, hR4⟩)
  go_end0
  exact ⟨a, t, o, rfl, hS4, hR4⟩
end

set_option maxRecDepth 100000 in
set_option maxHeartbeats 1000000 in
theorem none_any (a : Option Addr) (N cap : Nat) (l : List Nat) (w : World) (hl : l.length ≤ 320) (h : RI w a N cap (natI l)) : Calls Try.prog 104 #[.slice a N cap] w (Still w (.bool (noneB l))) := by
  obtain rfl : N = l.length := by have := RI.len h; rw [natI_length] at this; exact this
  obtain ⟨b, off, hidx, hc⟩ := Rd.open h 53 3 Try.underlying53 (by kernel_rfl)
  have hcs : ∀ j, j < l.length → w.cell? ⟨b, off + j, none⟩ = some (.int .i64 ((atN l j : Nat) : Int)) := fun j hj => by
    rw [hc j (by simpa [natI_length] using hj), cI_get, atI_natI]
  clear hc
  go_enter Try.func104, Try.ntmps104
  go_wp2
  go_loop [7] (fun u => ∃ i : Nat, u = .int .i64 i ∧ i ≤ l.length ∧ ∀ j, j < i → atN l j = 0) (fun u => l.length - (intOf u).toNat)
  case atStart => exact ⟨0, rfl, by omega, fun j hj => by omega⟩
  case round =>
    obtain ⟨i, rfl, hi, hz⟩ := hrel
    have Hz := Lib.hid hz
    clear hz
    by_cases hlt : i < l.length
    · have c0 := hcs i hlt
      by_cases h0 : atN l i = 0
      · have H0 := Lib.hid h0
        have d1 : decide ((0 : Int) < (atN l i : Nat)) = false := by simp; omega
        have d2 : decide (0 < atN l i) = false := by simp; omega
        clear h0
        go_wp2
        go_round
        case rel => exact ⟨i + 1, by go_num, by omega, fun j hj => by
          by_cases e : j = i
          · rw [e]; exact H0.out
          · exact Hz.out j (by omega)⟩
        case measure => simp [intOf]; omega
      · have d1 : decide ((0 : Int) < (atN l i : Nat)) = true := by simp; omega
        have d2 : decide (0 < atN l i) = true := by simp; omega
        have hno : noneB l = false := by
          unfold noneB
          rw [List.all_eq_false]
          exact ⟨atN l i, by unfold atN; rw [List.getD, List.getElem?_eq_getElem hlt]; exact List.getElem_mem hlt, by simpa using h0⟩
        rw [hno]
        go_wp2
        go_ret
        exact ⟨rfl, rfl⟩
    · have hno : noneB l = true := by
        unfold noneB
        rw [List.all_eq_true]
        intro x hx
        obtain ⟨j, hj, rfl⟩ := List.getElem_of_mem hx
        have := Hz.out j (by omega)
        unfold atN at this
        rw [List.getD, List.getElem?_eq_getElem hj] at this
        simpa using this
      rw [hno]
      go_wp2
      go_ret
      exact ⟨rfl, rfl⟩

set_option maxRecDepth 100000 in
set_option maxHeartbeats 1000000 in
theorem lone_any (a : Option Addr) (N cap : Nat) (l : List Nat) (w : World) (hl : l.length ≤ 320) (h15 : ∀ x ∈ l, x ≤ 15) (h : RI w a N cap (natI l)) : Calls Try.prog 103 #[.slice a N cap] w (Still w (.bool (lone l))) := by
  obtain rfl : N = l.length := by have := RI.len h; rw [natI_length] at this; exact this
  obtain ⟨b, off, hidx, hc⟩ := Rd.open h 53 3 Try.underlying53 (by kernel_rfl)
  have hcs : ∀ j, j < l.length → w.cell? ⟨b, off + j, none⟩ = some (.int .i64 ((atN l j : Nat) : Int)) := fun j hj => by
    rw [hc j (by simpa [natI_length] using hj), cI_get, atI_natI]
  clear hc
  go_enter Try.func103, Try.ntmps103
  go_wp2
  go_loop [3, 4, 9] (fun u v x => ∃ (i n s : Nat), u = .int .i64 n ∧ v = .int .i64 s ∧ x = .int .i64 i ∧ i ≤ l.length ∧ n = ((l.take i).filter fun x => decide (0 < x)).length ∧ s = (l.take i).sum ∧ n ≤ i ∧ s ≤ 15 * i) (fun _ _ x => l.length - (intOf x).toNat)
  case atStart => exact ⟨0, 0, 0, rfl, rfl, rfl, by omega, rfl, rfl, by omega, by omega⟩
  case round =>
    obtain ⟨i, n, s, rfl, rfl, rfl, hi, hn, hs, hn2, hs2⟩ := hrel
    have Hn := Lib.hid hn
    have Hs := Lib.hid hs
    clear hn hs
    by_cases hlt : i < l.length
    · have c0 := hcs i hlt
      have hx15 := atN_le_of h15 i
      have ht := take_atN hlt
      have hf2 : ((l.take (i + 1)).filter fun x => decide (0 < x)).length = n + if 0 < atN l i then 1 else 0 := by
        rw [ht, List.filter_append, List.length_append, ← Hn.out]
        by_cases e : 0 < atN l i
        · simp [e]
        · simp [show atN l i = 0 by omega]
      have hs3 : (l.take (i + 1)).sum = s + atN l i := by rw [ht, List.sum_append, ← Hs.out]; simp
      have Hf2 := Lib.hid hf2
      have Hs3 := Lib.hid hs3
      clear ht hf2 hs3 hcs
      by_cases h0 : 0 < atN l i
      · have d2 : decide (0 < atN l i) = true := by simpa using h0
        go_wp2
        go_round
        case rel => exact ⟨i + 1, n + 1, s + atN l i, by go_num, by go_num, by go_num, by omega, by rw [Hf2.out, if_pos h0], by rw [Hs3.out], by omega, by omega⟩
        case measure => simp [intOf]; omega
      · have d2 : decide (0 < atN l i) = false := by simpa using h0
        go_wp2
        go_round
        case rel => exact ⟨i + 1, n, s, rfl, rfl, by go_num, by omega, by rw [Hf2.out, if_neg h0]; rfl, by rw [Hs3.out]; omega, by omega, by omega⟩
        case measure => simp [intOf]; omega
    · have hil : i = l.length := by omega
      subst hil
      have e1 := Hn.out
      have e2 := Hs.out
      rw [List.take_length] at e1 e2
      have e : lone l = decide (n = 1 ∧ s = 1) := by unfold lone; rw [← e1, ← e2]
      clear Hn Hs e1 e2 hcs
      by_cases h1 : n = 1
      · have d1 : ((n : Int) == 1) = true := by simp; omega
        have e3 : decide (n = 1 ∧ s = 1) = ((s : Int) == 1) := by rw [Bool.eq_iff_iff]; simp; omega
        have E := Lib.hid (e.trans e3)
        clear e e3
        go_wp2
        go_ret
        exact ⟨by rw [E.out]; rfl, rfl⟩
      · have d1 : ((n : Int) == 1) = false := by simp; omega
        have e3 : decide (n = 1 ∧ s = 1) = false := by simp [h1]
        have E := Lib.hid (e.trans e3)
        clear e e3
        go_wp2
        go_ret
        exact ⟨by rw [E.out]; rfl, rfl⟩
end Go.Proofs.Ytpfalaghggjbjaa
