/-
  The walks of the writers of bits: deflate.writer's bit, field, code; sluicegateref03.Put, sluicegateref05.stream's field, code.
  Conditions: the writer holds bytes of its own, as many as its bits want.
-/
import Derived.Test.YtpfalaghggjbjaaWA
import Derived.Test.YtpfalaghggjbjaaNum
import Derived.BigRegion
import Derived.StillTailTactics
import Derived.Deep.CutRange
namespace Go.Proofs.Ytpfalaghggjbjaa
open Go.RowKit

/-- Block p is a writer (type e) of the bits s, its bytes its own, in a block from B on. -/
def Wr (e : Nat) (w : World) (p B : Nat) (s : List UInt8 × Nat) : Prop :=
  ∃ a c, w.heap[p]? = some (.cells #[.slice a s.1.length c, .int .i64 (s.2 : Int)] e (0, 0)) ∧ OB w B a s.1.length c s.1

theorem wr_mk {e : Nat} {w : World} {p B m c n : Nat} {a : Option Addr} {bs : List UInt8} {x : Int} (hp : w.heap[p]? = some (.cells #[.slice a m c, .int .i64 x] e (0, 0))) (h : OB w B a m c bs) (hx : x = (n : Int)) : Wr e w p B (bs, n) := by
  obtain rfl := h.rb.len
  subst hx
  exact ⟨a, c, hp, h⟩

/-- Blocks of pieces stay as they are. -/
def KeepP (w w' : World) : Prop := ∀ (q : Nat) (C : Array Value), w.heap[q]? = some (.cells C 31 (0, 0)) → w'.heap[q]? = some (.cells C 31 (0, 0))
theorem KeepP.refl (w : World) : KeepP w w := fun _ _ h => h
theorem KeepP.trans {w w' w'' : World} (h : KeepP w w') (h' : KeepP w' w'') : KeepP w w'' := fun q C hq => h' q C (h q C hq)
theorem KeepP.set {w w' : World} (h : KeepP w w') {p j e : Nat} {C : Array Value} {m : Nat × Nat} (hp : w'.heap[p]? = some (.cells C e m)) (he : e ≠ 31) (v : Value) : KeepP w (w'.setCell ⟨p, j, none⟩ v) := fun q D hq => by
  refine heap_set_other (h q D hq) (fun (hpq : p = q) => ?_) v
  have := h q D hq
  rw [← hpq, hp] at this
  simp at this
  exact he this.2.1
def BitPost (e : Nat) (w : World) (p B : Nat) (s : List UInt8 × Nat) (en : Ending) (w' : World) : Prop := en = .returned (.tuple #[]) ∧ Wr e w' p B s ∧ Below B w w' ∧ KeepP w w'

set_option maxRecDepth 100000 in
set_option maxHeartbeats 1000000 in
theorem bit_any (p B : Nat) (s : List UInt8 × Nat) (x : Int) (w : World) (h : Wr 80 w p B s) (hp : B ≤ p) (hs : s.1.length = (s.2 + 7) / 8) (hn : s.2 ≤ 1099511627776) :
    Calls Try.prog 73 #[.pointer (some ⟨p, 0, none⟩), .int .i64 x] w (BitPost 80 w p B (putBit s (bitOf x 0))) := by
  obtain ⟨bs, n⟩ := s
  obtain ⟨a, c, hp0, hown⟩ := h
  simp only at hp0 hown hs hn
  have Hs := Lib.hid hs
  have hl : bs.length ≤ n / 8 + 1 := by omega
  have hpz : p < w.heap.size := (Array.getElem?_eq_some_iff.1 hp0).1
  have h0 : w.cell? ⟨p, 0, none⟩ = some (.slice a bs.length c) := by simp [World.cell?, hp0]
  have h1 : w.cell? ⟨p, 1, none⟩ = some (.int .i64 (n : Int)) := by simp [World.cell?, hp0]
  have f0 : w.frozen? ⟨p, 0, none⟩ = false := by simp [World.frozen?, hp0]
  have hne : ∀ g, blk a = some g → g ≠ p := fun g hg e => own_ne_cells hown hp0 (by decide) (by rw [hg, e])
  have hb := hown.blk
  clear hs
  go_enter Try.func73, Try.ntmps73
  go_upto_if 9 with fail
  go_cut [1] from 4 (fun v wx => v = .int .i64 x ∧ Wr 80 wx p B (if n % 8 = 0 then bs ++ [0] else bs, n) ∧ Below B w wx ∧ KeepP w wx)
  case first =>
    by_cases h8 : n % 8 = 0
    · have d : ((n : Int) % 8 == 0) = true := by simp; omega
      go_wp2_with (at_builtin; go_must (refine wpList_appB rfl _ _ rfl B a bs.length c bs rfl (hown.alloc _) _ 1 1 [0] rfl (rb_new _ _ _ _ 0 rfl rfl) (by omega) (by simp; omega) ?_); intro a' c' w1 hown1 hgrew; have hp1 := heap_grew hgrew (heap_alloc hp0 _) (own_ne_cells hown hp0 (by decide)); have c10 := cell_at (j := 0) hp1 rfl; have f10 := free_at (j := 0) hp1)
      go_meet
      refine ⟨rfl, ?_, ?_, ?_⟩
      · rw [if_pos h8]
        exact wr_mk (heap_set (j := 0) hp1 (.slice a' (bs.length + 1) c')) (own_set hown1 (own_ne_cells hown1 hp1 (by decide)) _) rfl
      · exact (below_grew ((Below.refl B w).alloc (by omega) _) hgrew (by simp; omega) fun g hg => (hb g hg).1).setCell (by exact hp) _
      · exact KeepP.set (fun q C hq => heap_grew hgrew (heap_alloc hq _) (own_ne_cells hown hq (by decide))) hp1 (by decide) _
    · have d : ((n : Int) % 8 == 0) = false := by simp; omega
      go_wp2_with fail
      go_meet
      exact ⟨rfl, by rw [if_neg h8]; exact ⟨a, c, hp0, hown⟩, Below.refl _ _, KeepP.refl _⟩
  case rest =>
    obtain ⟨rfl, hwr, hbel, hkp⟩ := hcut
    obtain ⟨a1, c1, hp1, hown1⟩ := hwr
    simp only at hp1 hown1
    generalize hbs1 : (if n % 8 = 0 then bs ++ [0] else bs) = bs1 at *
    have hl1 : n / 8 < bs1.length := by
      have := Hs.out
      rw [← hbs1]
      split
      · simp; omega
      · omega
    have Hbs1 := Lib.hid hbs1
    obtain ⟨g, hag, hBg, hput, hfz, hcells⟩ := own_put hown1 hl1 (.int .u8 ((orBit (bs1.getD (n / 8) 0) (n % 8) (bitOf x 0)).toNat : Int))
    have hgp : g ≠ p := fun e => own_ne_cells hown1 hp1 (by decide) (by rw [hag, e]; rfl)
    subst hag
    have e0 := hcells (n / 8) (by simpa using hl1)
    rw [cB_get] at e0
    have c10 := cell_at (j := 0) hp1 rfl
    have c11 := cell_at (j := 1) hp1 rfl
    have f11 := free_at (j := 1) hp1
    clear hbs1 hl hcells hp0 hown hne hb hpz h0 h1 f0
    go_wp2
    go_region
    go_wp2
    go_end0
    have hor := or_bit (bs1.getD (n / 8) 0) x (n % 8) (by omega)
    change bits .or .u8 (at8 bs1 (n / 8)) (bits .and .i64 x 1 % 256 * 2 ^ (n % 8) % 256) = _ at hor
    refine ⟨rfl, ?_, ?_, ?_⟩
    · rw [hor]
      have hput' := own_set hput (q := ⟨p, 1, none⟩) (by simp [blk]; exact hgp) (.int .i64 ((n : Int) + 1))
      rw [← cB_set] at hput'
      have e : putBit (bs, n) (bitOf x 0) = (bs1.set (n / 8) (orBit (bs1.getD (n / 8) 0) (n % 8) (bitOf x 0)), n + 1) := by
        unfold putBit; simp only; rw [Hbs1.out]
      rw [e]
      exact wr_mk (heap_set (j := 1) (heap_set_other hp1 (by exact hgp) _) _) hput' (by omega)
    · exact ((hbel.setCell (by exact hBg) _).setCell (by exact hp) _).drew
    · intro q C hq
      have h1 := hkp q C hq
      have hqg : q ≠ g := fun e => own_ne_cells hown1 h1 (by decide) (by rw [e]; rfl)
      have hqp : q ≠ p := fun e => by rw [e, hp1] at h1; simp at h1
      exact heap_set_other (heap_set_other h1 (fun (e : g = q) => hqg e.symm) _) (fun (e : p = q) => hqp e.symm) _

set_option maxRecDepth 100000 in
set_option maxHeartbeats 1000000 in
theorem field_any (p B n : Nat) (s : List UInt8 × Nat) (x : Int) (w : World) (h : Wr 80 w p B s) (hp : B ≤ p) (hs : s.1.length = (s.2 + 7) / 8) (hn : n ≤ 64) (hs2 : s.2 + n ≤ 1099511627776) :
    Calls Try.prog 54 #[.pointer (some ⟨p, 0, none⟩), .int .i64 x, .int .i64 n] w (BitPost 80 w p B (putAll s (fieldBits x n))) := by
  have Hs := Lib.hid hs
  clear hs
  go_enter Try.func54, Try.ntmps54
  go_wp2
  go_loopw [8] (fun v wr => ∃ k : Nat, v = .int .i64 k ∧ k ≤ n ∧ Wr 80 wr p B (putAll s (fieldBits x k)) ∧ Below B w wr ∧ KeepP w wr) (fun v _ => n - (intOf v).toNat)
  case atStart => exact ⟨0, rfl, by omega, h, Below.refl _ _, KeepP.refl _⟩
  case round =>
    obtain ⟨k, rfl, hk, hw, hb, hkp⟩ := hrel
    by_cases hkn : k < n
    · have e : putBit (putAll s (fieldBits x k)) (bitOf (x / 2 ^ k) 0) = putAll s (fieldBits x (k + 1)) := by rw [bitOf_shift, fieldBits_succ, putAll_append]; rfl
      have He := Lib.hid e
      clear e
      have h2 : (putAll s (fieldBits x k)).2 ≤ 1099511627776 := by rw [putAll_snd, fieldBits_length]; omega
      go_wp2_with (go_at_call 73; go_must (refine (bit_any p B (putAll s (fieldBits x k)) (x / 2 ^ k) _ hw hp (putAll_len _ _ Hs.out) h2).mono ?_); rintro en w' ⟨rfl, hw', hb', hkp'⟩)
      go_roundw
      case rel => exact ⟨k + 1, by go_num, by omega, by rw [← He.out]; exact hw', hb.trans hb', hkp.trans hkp'⟩
      case measure => simp [intOf]; omega
    · have hkn' : k = n := by omega
      subst hkn'
      go_wp2
      go_end0
      exact ⟨rfl, hw, hb, hkp⟩

set_option maxRecDepth 100000 in
set_option maxHeartbeats 1000000 in
theorem code_any (p B n : Nat) (s : List UInt8 × Nat) (x : Int) (w : World) (h : Wr 80 w p B s) (hp : B ≤ p) (hs : s.1.length = (s.2 + 7) / 8) (hn : n ≤ 64) (hs2 : s.2 + n ≤ 1099511627776) :
    Calls Try.prog 61 #[.pointer (some ⟨p, 0, none⟩), .int .i64 x, .int .i64 n] w (BitPost 80 w p B (putAll s (codeBits x n))) := by
  have Hs := Lib.hid hs
  clear hs
  go_enter Try.func61, Try.ntmps61
  go_wp2
  go_loopw [6] (fun v wr => ∃ (k : Nat) (st : List UInt8 × Nat), ((∃ j : Nat, v = .int .i64 j ∧ k = j + 1) ∨ (v = .int .i64 (-1) ∧ k = 0)) ∧ k ≤ n ∧ Wr 80 wr p B st ∧ st.1.length = (st.2 + 7) / 8 ∧ st.2 + k = s.2 + n ∧ putAll st (codeBits x k) = putAll s (codeBits x n) ∧ Below B w wr ∧ KeepP w wr)
    (fun v _ => (intOf v + 1).toNat)
  case atStart =>
    refine ⟨n, s, ?_, by omega, h, Hs.out, rfl, rfl, Below.refl _ _, KeepP.refl _⟩
    rcases Nat.eq_zero_or_pos n with h0 | h0
    · subst h0; exact .inr ⟨by simp, rfl⟩
    · exact .inl ⟨n - 1, by congr 1; omega, by omega⟩
  case round =>
    obtain ⟨k, st, hv, hk, hw, hl, hs', he, hb, hkp⟩ := hrel
    have He := Lib.hid he
    have Hl := Lib.hid hl
    have Hs' := Lib.hid hs'
    have h2 : st.2 ≤ 1099511627776 := by omega
    clear he hl hs'
    rcases hv with ⟨j, rfl, rfl⟩ | ⟨rfl, rfl⟩
    · have e : putAll (putBit st (bitOf (x / 2 ^ j) 0)) (codeBits x j) = putAll s (codeBits x n) := by rw [bitOf_shift, ← He.out, codeBits_succ]; rfl
      have He' := Lib.hid e
      have hj : j < 64 := by omega
      clear e
      go_wp2_with (go_at_call 73; go_must (refine (bit_any p B st (x / 2 ^ j) _ hw hp Hl.out h2).mono ?_); rintro en w' ⟨rfl, hw', hb', hkp'⟩)
      go_roundw
      case rel =>
        refine ⟨j, putBit st (bitOf (x / 2 ^ j) 0), ?_, by omega, hw', putBit_len _ _ Hl.out, by rw [putBit_snd]; have := Hs'.out; omega, He'.out, hb.trans hb', hkp.trans hkp'⟩
        rcases Nat.eq_zero_or_pos j with h0 | h0
        · subst h0; exact .inr ⟨by simp, rfl⟩
        · exact .inl ⟨j - 1, by congr 1; omega, by omega⟩
      case measure => first | (simp [intOf]; done) | (simp [intOf]; omega)
    · go_wp2
      go_end0
      exact ⟨rfl, by rw [← He.out]; exact hw, hb, hkp⟩

/-- What Put hands back: a bit behind as many. -/
def PutPost (w : World) (B : Nat) (a : Option Addr) (bs : List UInt8) (e : Ending) (w' : World) : Prop := ∃ a' c', e = .returned (.slice a' bs.length c') ∧ OB w' B a' bs.length c' bs ∧ Mv w w' a a'

set_option maxRecDepth 100000 in
set_option maxHeartbeats 1000000 in
theorem put_any (B n c x : Nat) (a : Option Addr) (bs : List UInt8) (w : World) (hown : OB w B a bs.length c bs) (hB : B ≤ w.heap.size) (hs : bs.length = (n + 7) / 8) (hn : n ≤ 1099511627776) (hx : x < 2) :
    Calls Try.prog 98 #[.slice a bs.length c, .int .i64 n, .int .i64 x] w (PutPost w B a (putBit (bs, n) x).1) := by
  have Hs := Lib.hid hs
  have hl : bs.length ≤ n / 8 + 1 := by omega
  have hb := hown.blk
  clear hs
  go_enter Try.func98, Try.ntmps98
  go_upto_if 9 with fail
  go_cut [0, 1, 2] from 7 (fun u v y wx => ∃ a1 c1, u = .slice a1 (if n % 8 = 0 then bs ++ [0] else bs).length c1 ∧ v = .int .i64 n ∧ y = .int .i64 x ∧ OB wx B a1 (if n % 8 = 0 then bs ++ [0] else bs).length c1 (if n % 8 = 0 then bs ++ [0] else bs) ∧ Mv w wx a a1)
  case first =>
    by_cases h8 : n % 8 = 0
    · have d : ((n : Int) % 8 == 0) = true := by simp; omega
      go_wp2_with (at_builtin; go_must (refine wpList_appB rfl _ _ rfl B a bs.length c bs rfl (hown.alloc _) _ 1 1 [0] rfl (rb_new _ _ _ _ 0 rfl rfl) (by omega) (by simp; omega) ?_); intro a' c' w1 hown1 hgrew)
      go_meet
      rw [if_pos h8, List.length_append]
      exact ⟨a', c', rfl, rfl, rfl, hown1, ((Mv.refl w a).alloc _).trans hgrew.mv⟩
    · have d : ((n : Int) % 8 == 0) = false := by simp; omega
      go_wp2_with fail
      go_meet
      rw [if_neg h8]
      exact ⟨a, c, rfl, rfl, rfl, hown, Mv.refl _ _⟩
  case rest =>
    obtain ⟨a1, c1, rfl, rfl, rfl, hown1, hmv⟩ := hcut
    generalize hbs1 : (if n % 8 = 0 then bs ++ [0] else bs) = bs1 at *
    have hl1 : n / 8 < bs1.length := by
      have := Hs.out
      rw [← hbs1]
      split
      · simp; omega
      · omega
    have hl2 : bs1.length ≤ n / 8 + 1 := by
      have := Hs.out
      rw [← hbs1]
      split
      · simp; omega
      · omega
    have Hbs1 := Lib.hid hbs1
    obtain ⟨g, hag, hBg, hput, hfz, hcells⟩ := own_put hown1 hl1 (.int .u8 ((orBit (bs1.getD (n / 8) 0) (n % 8) x).toNat : Int))
    subst hag
    have e0 := hcells (n / 8) (by simpa using hl1)
    rw [cB_get] at e0
    clear hbs1 hl hcells hown hb
    go_wp2
    go_ret
    have hor := or_bit' (bs1.getD (n / 8) 0) x (n % 8) hx (by omega)
    change bits .or .u8 (at8 bs1 (n / 8)) ((x : Int) * 2 ^ (n % 8) % 256) = _ at hor
    have e : (putBit (bs, n) x).1 = bs1.set (n / 8) (orBit (bs1.getD (n / 8) 0) (n % 8) x) := by
      unfold putBit; simp only; rw [Hbs1.out]
    rw [hor, e]
    rw [← cB_set] at hput
    refine ⟨some ⟨g, 0, none⟩, c1, ?_, ?_, hmv.setCell _ _ (.inl rfl)⟩
    · rw [List.length_set]; rfl
    · rw [List.length_set]; exact hput
theorem put_at (B n c x : Nat) (y : Int) (a : Option Addr) (bs : List UInt8) (w : World) (hy : y = (x : Int)) (hown : OB w B a bs.length c bs) (hB : B ≤ w.heap.size) (hs : bs.length = (n + 7) / 8) (hn : n ≤ 1099511627776) (hx : x < 2) :
    Calls Try.prog 98 #[.slice a bs.length c, .int .i64 n, .int .i64 y] w (PutPost w B a (putBit (bs, n) x).1) := by
  subst hy; exact put_any B n c x a bs w hown hB hs hn hx
end Go.Proofs.Ytpfalaghggjbjaa
