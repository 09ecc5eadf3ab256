/-
  Slices of []byte: what d[i:j] is, and what it reads as; append as a step of a region that draws.
  Conditions: none.
-/
import Derived.Test.YtpfalaghggjbjaaBase
import Derived.Deep.RegionLaw
namespace Go.Proofs.Ytpfalaghggjbjaa
open Go.RowKit

/-- Where d[k:] begins. -/
def adv (a : Option Addr) (cap k : Nat) : Option Addr := if cap = k then a else a.map (·.add k)
theorem blk_adv (a : Option Addr) (cap k : Nat) : blk (adv a cap k) = blk a := by
  unfold adv
  split
  · rfl
  · cases a with
    | none => rfl
    | some a => simp only [Option.map_some, blk, Addr.add]; split <;> rfl
theorem size22 (w : World) : (sizeOf (Try.prog.elem 22)).run Try.prog w = .ok 1 w := by
  obtain ⟨i, hi, hz0, hz1, hz2⟩ := info_parts info5
  have he : Try.prog.elem 22 = 5 := by simp [Program.elem, Try.underlying22]
  rw [he]
  simp [sizeOf, typeInfo, hi, hz1]
theorem under22 : Try.prog.underlying 22 = some (.slice (Try.prog.elem 22)) := by
  have he : Try.prog.elem 22 = 5 := by simp [Program.elem, Try.underlying22]
  rw [he]; exact Try.underlying22
theorem slice_lh (w : World) (a : Option Addr) (n cap lo hi : Nat) (k1 k2 : IntKind) (x y : Int) (hx : x = (lo : Int)) (hy : y = (hi : Int)) (h1 : lo ≤ hi) (h2 : hi ≤ cap) :
    (Instr.slice 22 (.slice a n cap) (some (.int k1 x)) (some (.int k2 y)) none).run Try.prog w = .ok (.slice (adv a cap lo) (hi - lo) (cap - lo)) w := by
  subst hx hy
  rw [run_slice_lh w 22 a n cap under22 k1 k2 lo hi (by omega) (by omega) (by omega), size22]
  simp [Result.andThen, sliced, adv]
theorem slice_h (w : World) (a : Option Addr) (n cap hi : Nat) (k2 : IntKind) (y : Int) (hy : y = (hi : Int)) (h2 : hi ≤ cap) :
    (Instr.slice 22 (.slice a n cap) none (some (.int k2 y)) none).run Try.prog w = .ok (.slice (adv a cap 0) hi cap) w := by
  subst hy
  rw [run_slice_h w 22 a n cap under22 k2 hi (by omega) (by omega), size22]
  simp [Result.andThen, sliced, adv]
theorem slice_l (w : World) (a : Option Addr) (n cap lo : Nat) (k1 : IntKind) (x : Int) (hx : x = (lo : Int)) (h1 : lo ≤ n) :
    (Instr.slice 22 (.slice a n cap) (some (.int k1 x)) none none).run Try.prog w = .ok (.slice (adv a cap lo) (n - lo) (cap - lo)) w := by
  subst hx
  rw [run_slice_l w 22 a n cap under22 k1 lo (by omega) (by omega), size22]
  simp [Result.andThen, sliced, adv]

/-- What it reads as. -/
theorem rd_adv {w : World} {a : Option Addr} {n cap m lo hi : Nat} {xs ys : List Value} (h : Rd w a n cap 1 xs) (h1 : lo ≤ hi) (h2 : hi ≤ n) (hm : m = hi - lo) (hy : ys = (xs.drop lo).take (hi - lo)) : Rd w (adv a cap lo) m (cap - lo) 1 ys := by
  have hl := h.len
  have hle := h.le
  subst hm hy
  refine ⟨by simp; omega, by omega, by have := h.small; omega, ?_⟩
  rcases h.at' with h0 | ⟨b, off, rfl, hc⟩
  · exact .inl (by omega)
  · by_cases he : cap = lo
    · exact .inl (by omega)
    · refine .inr ⟨b, off + lo, by unfold adv; rw [if_neg he]; simp [Addr.add_lit], fun j hj => ?_⟩
      have hj' : lo + j < xs.length := by simp at hj; omega
      rw [Nat.add_assoc, hc (lo + j) hj']
      simp
theorem rb_lh {w : World} {a : Option Addr} {n cap lo hi : Nat} {l : List UInt8} (h : RB w a n cap l) (h1 : lo ≤ hi) (h2 : hi ≤ n) : RB w (adv a cap lo) (hi - lo) (cap - lo) ((l.drop lo).take (hi - lo)) :=
  rd_adv h h1 h2 rfl (by simp [cB, List.map_drop, List.map_take])
theorem rb_h {w : World} {a : Option Addr} {n cap hi : Nat} {l : List UInt8} (h : RB w a n cap l) (h2 : hi ≤ n) : RB w (adv a cap 0) hi cap (l.take hi) :=
  rd_adv h (Nat.zero_le _) h2 rfl (by simp [cB, List.map_take])
theorem rb_l {w : World} {a : Option Addr} {n cap lo : Nat} {l : List UInt8} (h : RB w a n cap l) (h2 : lo ≤ n) : RB w (adv a cap lo) (n - lo) (cap - lo) (l.drop lo) := by
  have hl := RB.len h
  refine rd_adv h h2 (Nat.le_refl _) rfl ?_
  rw [List.take_of_length_le (by simp [cB, hl])]
  simp [cB, List.map_drop]

section
variable {w : World} {ops : Array Oper} {rest : List Oper} {o : Oper} {A : Act} {Q : Exit → Act → World → Prop}
theorem wpList_slLH (hgd : o.guard = none) (s x y : Operand) (ho : o.op = .slice 22 s (some x) (some y) none) (a : Option Addr) (n cap lo hi : Nat) (k1 k2 : IntKind) (X Y : Int) (hs : A.eval s = .slice a n cap)
    (hx : A.eval x = .int k1 X) (hy : A.eval y = .int k2 Y) (hX : X = (lo : Int)) (hY : Y = (hi : Int)) (h1 : lo ≤ hi) (h2 : hi ≤ cap)
    (h : wpList Try.prog ops Q rest (A.put o.dst (.slice (adv a cap lo) (hi - lo) (cap - lo))) w) : wpList Try.prog ops Q (o :: rest) A w := by
  refine wpList_plain hgd fun K hK => ?_
  unfold Oper.wp
  simp [execOp, ho, hs, hx, hy, run_sliceAt_slice _ _ _ _ _ _ under22, slice_lh w a n cap lo hi k1 k2 X Y hX hY h1 h2, Result.andThen]
  exact hK _ _ h
theorem wpList_slH (hgd : o.guard = none) (s y : Operand) (ho : o.op = .slice 22 s none (some y) none) (a : Option Addr) (n cap hi : Nat) (k2 : IntKind) (Y : Int) (hs : A.eval s = .slice a n cap)
    (hy : A.eval y = .int k2 Y) (hY : Y = (hi : Int)) (h2 : hi ≤ cap)
    (h : wpList Try.prog ops Q rest (A.put o.dst (.slice (adv a cap 0) hi cap)) w) : wpList Try.prog ops Q (o :: rest) A w := by
  refine wpList_plain hgd fun K hK => ?_
  unfold Oper.wp
  simp [execOp, ho, hs, hy, run_sliceAt_slice _ _ _ _ _ _ under22, slice_h w a n cap hi k2 Y hY h2, Result.andThen]
  exact hK _ _ h
theorem wpList_slL (hgd : o.guard = none) (s x : Operand) (ho : o.op = .slice 22 s (some x) none none) (a : Option Addr) (n cap lo : Nat) (k1 : IntKind) (X : Int) (hs : A.eval s = .slice a n cap)
    (hx : A.eval x = .int k1 X) (hX : X = (lo : Int)) (h1 : lo ≤ n)
    (h : wpList Try.prog ops Q rest (A.put o.dst (.slice (adv a cap lo) (n - lo) (cap - lo))) w) : wpList Try.prog ops Q (o :: rest) A w := by
  refine wpList_plain hgd fun K hK => ?_
  unfold Oper.wp
  simp [execOp, ho, hs, hx, run_sliceAt_slice _ _ _ _ _ _ under22, slice_l w a n cap lo k1 X hX h1, Result.andThen]
  exact hK _ _ h
/-- append on a []byte of the call's own, as a step of a region that draws. -/
theorem step_appB {K : Act → World → Prop} {E : Prop} (hgd : o.guard = none) (s x : Operand) (ho : o.op = .call { callee := .builtin .append, args := #[s, x], argTypes := #[22, 22] })
    (B : Nat) (a : Option Addr) (n cap : Nat) (l : List UInt8) (hs : A.eval s = .slice a n cap) (hown : OB w B a n cap l)
    (sa : Option Addr) (m cs : Nat) (news : List UInt8) (hx : A.eval x = .slice sa m cs) (hsrc : RB w sa m cs news)
    (hb : n + m ≤ 140737488355328) (hbase : B ≤ w.heap.size)
    (h : ∀ a' c' w', OB w' B a' (n + m) c' (l ++ news) → Grew w w' a a' → K (A.put o.dst (.slice a' (n + m) c')) w') :
    if Region.wanted o (yielded ops A.tmps) = true then Oper.wp Try.prog o A w K Q else E := by
  have hw : Region.wanted o (yielded ops A.tmps) = true := by simp [Region.wanted, hgd]
  rw [if_pos hw]
  obtain ⟨i, hi, hz0, hz1, hz2⟩ := info_parts info5
  obtain ⟨a', c', w', hr, h2, h3, h4⟩ := append_run (P := Try.prog) w B 22 o.type 5 i (.int .u8 0) 1 1 Try.underlying22 hi hz0 hz1 hz2 rfl (by decide) a n cap (cB l) hown sa m cs (cB news) hsrc (one_cB _) (by omega) (by omega) hbase
  unfold Oper.wp execOp
  simp only [ho, resolve, invoke, builtin, Sem.run_bind, Sem.run_pure, Result.andThen_ok, List.map_toArray, List.map_cons, List.map_nil, hs, hx, hr]
  refine h a' c' w' (by unfold OB; rw [cB_append]; exact h2) ⟨by rw [ownBlock_slice] at h3; exact h3, ?_⟩
  rw [ownBlock_slice, ownBlock_slice] at h4
  rcases h4 with h4 | ⟨g, rfl, hg⟩
  · exact .inl h4
  · exact .inr ⟨g, rfl, hg⟩
end

/-- What the temporary of an append of several bytes reads as. -/
theorem rb_news {w : World} {g n e : Nat} {c : Array Value} {l : List UInt8} (hg : w.heap.size = g) (hc : c.toList = cB l) (hn : n = l.length) (hs : n ≤ 9223372036854775807) : RB (w.alloc (.cells c e)) (some ⟨g, 0, none⟩) n n l := by
  subst hg hn
  have h := rd_new w c e l.length 1 (by rw [← Array.length_toList, hc]; simp) hs
  rw [hc] at h
  exact h
theorem u8_of (x : Int) (k : Nat) (h : x % 256 = ((k % 256 : Nat) : Int)) : (x % 256 : Int) = ((UInt8.ofNat k).toNat : Int) := by rw [h]; simp
end Go.Proofs.Ytpfalaghggjbjaa
