/- A part of the proof. -/
import Derived.Test.YtpkbckdhkaggbaaDoorx4
import Derived.Test.YtpkbckdhkaggbaaDoorx7
import Derived.Orders
import Derived.AtR
import Derived.Calls
set_option linter.all false
namespace Go.Lf
open Go
def Uz (acc : List Nat) (o : Oper) : Nat := o.after.toList.foldl (fun s e => if Region.binds .any e then s ||| 2 ^ e.on ||| acc.getD e.on 0 else s) 0
def Tz : List Oper → List Nat → List Nat
 | [], acc => acc
 | o :: r, acc => Tz r (acc ++ [Uz acc o])
def U4 (ops : Array Oper) : Bool := (List.range ops.size).all fun i => (ops.getD i default).after.toList.all fun e => !Region.binds .any e || decide (e.on < i)
def af (los : List AG) (ops : Array Oper) : Bool :=
 U4 ops && ((List.range ops.size).all fun j => (List.range j).all fun i => ((Tz ops.toList []).getD j 0).testBit i || (los.getD i default).foot.apart (los.getD j default).foot)
theorem QH (acc : List Nat) (i : Nat) : ∀ (es : List Edge) (s : Nat), (es.foldl (fun s e => if Region.binds .any e then s ||| 2 ^ e.on ||| acc.getD e.on 0 else s) s).testBit i = true →
  s.testBit i = true ∨ ∃ e, e ∈ es ∧ Region.binds .any e = true ∧ (i = e.on ∨ (acc.getD e.on 0).testBit i = true)
 | [], s, h => .inl h
 | e :: es, s, h => by
  simp only [List.foldl_cons] at h
  rcases QH acc i es _ h with h1 | ⟨e', h1, h2, h3⟩
  ·split at h1
   ·rename_i hb
    rw [Nat.testBit_or, Nat.testBit_or, Bool.or_eq_true, Bool.or_eq_true] at h1
    rcases h1 with (h1 | h1) | h1
    ·exact .inl h1
    ·refine .inr ⟨e, by simp, hb, .inl ?_⟩
     rw [Nat.testBit_two_pow] at h1
     exact (by simpa using h1 : e.on = i).symm
    ·exact .inr ⟨e, by simp, hb, .inr h1⟩
   ·exact .inl h1
  ·exact .inr ⟨e', by simp [h1], h2, h3⟩
def kU (all : List Oper) (acc : List Nat) : Prop := ∀ (k : Nat) (i : Nat), k < acc.length → (acc.getD k 0).testBit i = true →
 ∃ o e, all[k]? = some o ∧ e ∈ o.after.toList ∧ Region.binds .any e = true ∧ (i = e.on ∨ (e.on < k ∧ (acc.getD e.on 0).testBit i = true))
theorem Tt (all : List Oper) : ∀ (r pre : List Oper) (acc : List Nat), all = pre ++ r → acc.length = pre.length → kU all acc → kU all (Tz r acc) ∧ (Tz r acc).length = all.length
 | [], pre, acc, ha, hl, h => by subst ha; exact ⟨h, by simpa [Tz] using hl⟩
 | o :: r, pre, acc, ha, hl, h => by
  rw [Tz]
  refine Tt all r (pre ++ [o]) _ (by rw [ha]; simp) (by simp [hl]) fun k i hk ht => ?_
  simp only [List.length_append, List.length_singleton] at hk
  have hget : ∀ n, n < acc.length → (acc ++ [Uz acc o]).getD n 0 = acc.getD n 0 := fun n hn => by
   simp [List.getD_eq_getElem?_getD, List.getElem?_append_left hn]
  by_cases hka : k < acc.length
  ·rw [hget k hka] at ht
   obtain ⟨o', e, h1, h2, h3, h4⟩ := h k i hka ht
   refine ⟨o', e, h1, h2, h3, h4.imp id fun h => ⟨h.1, ?_⟩⟩
   rw [hget _ (by omega)]; exact h.2
  ·obtain rfl : k = acc.length := by omega
   have hg : (acc ++ [Uz acc o]).getD acc.length 0 = Uz acc o := by simp [List.getD_eq_getElem?_getD]
   rw [hg] at ht
   unfold Uz at ht
   rcases QH acc i _ _ ht with h1 | ⟨e, h1, h2, h3⟩
   ·simp at h1
   ·refine ⟨o, e, by rw [ha, hl]; simp, h1, h2, h3.imp id fun h3 => ?_⟩
    have hlt : e.on < acc.length := by
     rcases Nat.lt_or_ge e.on acc.length with h | h
     ·exact h
     ·simp [List.getD_eq_getElem?_getD, List.getElem?_eq_none h] at h3
    exact ⟨hlt, by rw [hget _ hlt]; exact h3⟩
section
variable {ops : Array Oper}
theorem dH (h : U4 ops = true) {i : Nat} {o : Oper} (ho : ops[i]? = some o) {e : Edge} (he : e ∈ o.after) (hb : Region.binds .any e = true) : e.on < i := by
 unfold U4 at h
 rw [List.all_eq_true] at h
 have hi : i < ops.size := (Array.getElem?_eq_some_iff.1 ho).1
 have := h i (List.mem_range.2 hi)
 rw [List.all_eq_true] at this
 have hd : ops.getD i default = o := by rw [Array.getD_eq_getD_getElem?, ho]; rfl
 rw [hd] at this
 have := this e (by simpa using he)
 simpa [hb] using this
def C0 (n : Nat) (listed : Array Bool) : List Nat := (List.range n).filter fun i => !listed.getD i true
theorem FV {n i : Nat} {listed : Array Bool} : i ∈ C0 n listed ↔ i < n ∧ listed.getD i true = false := by
 simp [C0, List.mem_filter]
theorem QU (he : U4 ops = true) {listed : Array Bool} (hs : listed.size = ops.size) (hne : C0 ops.size listed ≠ []) : Region.ready .any ops listed ≠ [] := by
 obtain ⟨i, r, hir⟩ : ∃ i r, C0 ops.size listed = i :: r := by
  cases h : C0 ops.size listed with
  | nil => exact absurd h hne
  | cons i r => exact ⟨i, r, rfl⟩
 have hi : i ∈ C0 ops.size listed := by rw [hir]; simp
 obtain ⟨hin, hil⟩ := FV.1 hi
 have hmin : ∀ j, j < i → listed.getD j false = true := by
  intro j hj
  have hjn : j < listed.size := by omega
  cases hl : listed.getD j true with
  | false =>
   have hjm : j ∈ C0 ops.size listed := FV.2 ⟨by omega, hl⟩
   have hsorted : (C0 ops.size listed).Pairwise (· < ·) := List.Pairwise.filter _ List.pairwise_lt_range
   rw [hir] at hjm hsorted
   rcases List.mem_cons.1 hjm with h | h
   ·omega
   ·have := (List.pairwise_cons.1 hsorted).1 j h
    omega
  | true => simp [Array.getD, hjn] at hl ⊢; exact hl
 have : i ∈ Region.ready .any ops listed := by
  rw [mem_ready]
  have ho : ops[i]? = some ops[i] := Array.getElem?_eq_getElem hin
  exact ⟨hil, _, ho, fun e hea hb => hmin _ (dH he ho hea hb)⟩
 intro h
 rw [h] at this
 simp at this
theorem NY (he : U4 ops = true) : ∀ (fuel t : Nat) (listed : Array Bool), listed.size = ops.size → (C0 ops.size listed).length ≤ fuel →
  (Region.linearise.go .any ops fuel t listed []).Perm (C0 ops.size listed) ∧
   ∀ pre k post, Region.linearise.go .any ops fuel t listed [] = pre ++ k :: post → ∀ o, ops[k]? = some o → ∀ e, e ∈ o.after → Region.binds .any e = true → listed.getD e.on false = true ∨ e.on ∈ pre
 | 0, t, listed, hs, hf => by
  have : C0 ops.size listed = [] := List.length_eq_zero_iff.1 (by omega)
  rw [this]
  exact ⟨by simp [Region.linearise.go], fun pre k post h => by simp [Region.linearise.go] at h⟩
 | fuel + 1, t, listed, hs, hf => by
  simp only [Region.linearise.go]
  change List.Perm (match (Region.ready .any ops listed)[t % (Region.ready .any ops listed).length]? with
   | some i => Region.linearise.go .any ops fuel (t / (Region.ready .any ops listed).length) (listed.setIfInBounds i true) [i]
   | none => [].reverse) _ ∧ ∀ pre k post, (match (Region.ready .any ops listed)[t % (Region.ready .any ops listed).length]? with
   | some i => Region.linearise.go .any ops fuel (t / (Region.ready .any ops listed).length) (listed.setIfInBounds i true) [i]
   | none => [].reverse) = pre ++ k :: post → _
  cases hi : (Region.ready .any ops listed)[t % (Region.ready .any ops listed).length]? with
  | none =>
   have hnil : Region.ready .any ops listed = [] := by
    cases hr : Region.ready .any ops listed with
    | nil => rfl
    | cons x xs =>
     rw [hr] at hi
     have hlt : t % (x :: xs).length < (x :: xs).length := Nat.mod_lt _ (by simp)
     simp at hi
     simp at hlt
     omega
   have hu : C0 ops.size listed = [] := Classical.byContradiction fun h => QU he hs h hnil
   rw [hu]
   exact ⟨by simp, fun pre k post h => by simp at h⟩
  | some i =>
   simp only
   have hir : i ∈ Region.ready .any ops listed := List.mem_of_getElem? hi
   obtain ⟨hil, oi, hoi, hie⟩ := mem_ready.1 hir
   have hin : i < ops.size := (Array.getElem?_eq_some_iff.1 hoi).1
   have hiu : i ∈ C0 ops.size listed := FV.2 ⟨hin, hil⟩
   have hgne : ∀ j, j ≠ i → ∀ d, (listed.setIfInBounds i true).getD j d = listed.getD j d := fun j hj d => by
    simp [Array.getElem?_setIfInBounds_ne (fun h => hj h.symm)]
   have hgi : ∀ d, (listed.setIfInBounds i true).getD i d = true := fun d => by simp [Array.getElem?_setIfInBounds, hs, hin]
   have hnd : (C0 ops.size listed).Nodup := (List.nodup_range.sublist List.filter_sublist)
   have hper : (C0 ops.size listed).Perm (i :: C0 ops.size (listed.setIfInBounds i true)) := by
    refine (List.perm_ext_iff_of_nodup hnd ?_).2 fun j => ?_
    ·refine List.nodup_cons.2 ⟨fun h => ?_, (List.nodup_range.sublist List.filter_sublist)⟩
     have := (FV.1 h).2
     rw [hgi] at this; simp at this
    ·rw [FV, List.mem_cons, FV]
     by_cases hj : j = i
     ·subst hj; simp [hin, hil]
     ·rw [hgne j hj]; simp [hj]
   have hlen : (C0 ops.size (listed.setIfInBounds i true)).length ≤ fuel := by
    have := hper.length_eq
    simp only [List.length_cons] at this
    omega
   obtain ⟨h1, h2⟩ := NY he fuel (t / (Region.ready .any ops listed).length) (listed.setIfInBounds i true) (by simpa using hs) hlen
   rw [linearise_go_acc, List.reverse_singleton, List.singleton_append]
   refine ⟨(List.Perm.cons i h1).trans hper.symm, fun pre k post h o ho e hea hb => ?_⟩
   cases pre with
   | nil =>
    simp only [List.nil_append, List.cons.injEq] at h
    obtain ⟨rfl, _⟩ := h
    rw [hoi] at ho
    simp only [Option.some.injEq] at ho
    subst ho
    exact .inl (hie e hea hb)
   | cons x pre =>
    simp only [List.cons_append, List.cons.injEq] at h
    obtain ⟨rfl, h⟩ := h
    rcases h2 pre k post h o ho e hea hb with h3 | h3
    ·by_cases hei : e.on = i
     ·exact .inr (by simp [hei])
     ·rw [hgne _ hei] at h3; exact .inl h3
    ·exact .inr (by simp [h3])
theorem jF {los : List AG} (hd : af los ops = true) (t : Nat) :
  (Region.linearise .any ops t).Perm (List.range ops.size) ∧
   ∀ i k, i < k → k < ops.size → (∃ a b, Region.linearise .any ops t = a ++ k :: b ∧ i ∈ b) → (los.getD i default).foot.apart (los.getD k default).foot = true := by
 unfold af at hd
 rw [Bool.and_eq_true] at hd
 obtain ⟨he, hp⟩ := hd
 have hun : C0 ops.size (Array.replicate ops.size false) = List.range ops.size := by
  unfold C0
  rw [List.filter_eq_self]
  intro i hi
  have := List.mem_range.1 hi
  simp [Array.getD, this]
 obtain ⟨h1, h2⟩ := NY he ops.size t (Array.replicate ops.size false) (by simp) (by rw [hun]; simp)
 rw [hun] at h1
 refine ⟨h1, fun i k hik hk hab => ?_⟩
 obtain ⟨a, b, hL, hib⟩ := hab
 change Region.linearise.go .any ops ops.size t (Array.replicate ops.size false) [] = a ++ k :: b at hL
 rw [List.all_eq_true] at hp
 have hpk := hp k (List.mem_range.2 hk)
 rw [List.all_eq_true] at hpk
 have hpi := hpk i (List.mem_range.2 hik)
 rw [Bool.or_eq_true] at hpi
 rcases hpi with hbit | hap
 ·
  exfalso
  obtain ⟨hspec, hlen⟩ := Tt ops.toList ops.toList [] [] rfl rfl (fun k i hk => by simp at hk)
  have key : ∀ (k : Nat), k < ops.size → ∀ (i : Nat), ((Tz ops.toList []).getD k 0).testBit i = true → ∀ pre post, Region.linearise.go .any ops ops.size t (Array.replicate ops.size false) [] = pre ++ k :: post → i ∈ pre := by
   intro k
   induction k using Nat.strongRecOn with
   | ind k ih =>
    intro hk i hbit pre post hL
    obtain ⟨o, e, ho, hea, hb, hor⟩ := hspec k i (by rw [hlen]; simpa using hk) hbit
    have ho' : ops[k]? = some o := by simpa using ho
    have hepre : e.on ∈ pre := by
     rcases h2 pre k post hL o ho' e (by simpa using hea) hb with h3 | h3
     ·exfalso
      simp only [Array.getD_eq_getD_getElem?, Array.getElem?_replicate] at h3
      split at h3 <;> simp at h3
     ·exact h3
    rcases hor with rfl | ⟨hlt, hbit'⟩
    ·exact hepre
    ·obtain ⟨p1, p2, rfl⟩ := List.append_of_mem hepre
     have := ih e.on hlt (by omega) i hbit' p1 (p2 ++ k :: post) (by rw [hL]; simp)
     simp [this]
  have hia := key k hk i hbit a b hL
  have hnd : (a ++ k :: b).Nodup := by rw [← hL]; exact h1.nodup_iff.2 List.nodup_range
  have := (List.nodup_append.1 hnd).2.2 i hia i (by simp [hib])
  exact this rfl
 ·exact hap
end
def FW (P : Program) (l : List Vf) (n : Nat) : Code → Bool
 | .region id ops draw => (ops.toList.all fun o => match o.dst with
  | some d => decide (d < n)
  | none => true) && (!draw || af (PX P (Vf.find l id) ops) ops)
 | .seq a b | .cond _ a b => FW P l n a && FW P l n b
 | .block _ c | .loop c | .scope c => FW P l n c
 | .rangeFunc _ ps a b => ps.toList.all (fun t => decide (t < n)) && FW P l n a && FW P l n b
 | _ => true
def s0 (P : Program) (l : List Vf) (f : Func) : Bool := match f.body with
 | some c => FW P l f.ntmps c && !(f.name == "runtime.NumGoroutine") && decide (f.params.size + f.nfree ≤ f.ntmps)
 | none => false
def rL (P : Program) (ann : Nat → List Vf) (globs : Nat → List DV) : A2 where
 funcs f := match P.funcs[f]? with
  | some fn => if s0 P (ann f) fn then oG P (ann f) fn else none
  | none => none
 globs := globs
end Go.Lf
namespace Go.Lf
open Go
def DL (P : Program) (m : Machine) (Q : Machine → Prop) : Prop := ∃ m', Steps P m m' ∧ Q m'
section
variable {P : Program} {m m₁ : Machine} {Q R : Machine → Prop}
theorem DL.here (h : Q m) : DL P m Q := ⟨m, .refl P m, h⟩
theorem Q1 (hs : Steps P m m₁) (h : DL P m₁ Q) : DL P m Q := by
 obtain ⟨m', h1, h2⟩ := h
 exact ⟨m', hs.trans h1, h2⟩
theorem DL.step (hs : step P m = .next m₁) (h : DL P m₁ Q) : DL P m Q := Q1 (.one hs) h
theorem DL.bind (h : DL P m Q) (hr : ∀ m', Q m' → DL P m' R) : DL P m R := by
 obtain ⟨m', h1, h2⟩ := h
 exact Q1 h1 (hr m' h2)
theorem DL.mono (h : DL P m Q) (hr : ∀ m', Q m' → R m') : DL P m R := h.bind fun m' hq => DL.here (hr m' hq)
end
section
variable {P : Program} {b : Frame} {a : Act} {k : List Item} {cs : List Frame} {w w' : World} {ops : Array Oper}
theorem LJ {i : Nat} {rest : List Nat} {o : Oper} (ho : ops[i]? = some o) (v : Value) :
  (b.atR a (.inRegion ops (i :: rest) :: k)).finish v = b.atR (a.put o.dst v) (.inRegion ops rest :: k) := by
 rw [Frame.finish_atR, ho]; rfl
theorem M3 (o : Oper) (h : ∀ c, o.op ≠ .defer c) (ro : Option Nat) (ρ : Operand → Value) : o.semAt ro ρ = execOp ρ o := Oper.semAt_eq ro ρ o h
theorem jN {i : Nat} {rest : List Nat} {o : Oper} {v : Value} (ho : ops[i]? = some o) (hw : Region.wanted o (yielded ops a.tmps) = true)
  (hd : ∀ c, o.op ≠ .defer c) (hr : (execOp a.eval o).run P w = .ok (.value v) w') :
  step P (lone (b.atR a (.inRegion ops (i :: rest) :: k)) cs w) = .next (lone (b.atR (a.put o.dst v) (.inRegion ops rest :: k)) cs w') :=
 step_lone_go (by rw [stepGR_op ho hw, M3 o hd, ← LJ ho]; simp [stepG.apply, hr])
theorem kF {i : Nat} {rest : List Nat} {o : Oper} (ho : ops[i]? = some o) (hw : Region.wanted o (yielded ops a.tmps) = true)
  (hd : ∀ c, o.op ≠ .defer c) (hr : (execOp a.eval o).run P w = .ok .skip w') :
  step P (lone (b.atR a (.inRegion ops (i :: rest) :: k)) cs w) = .next (lone (b.atR (a.put o.dst undef) (.inRegion ops rest :: k)) cs w') :=
 step_lone_go (by rw [stepGR_op ho hw, M3 o hd, ← LJ ho]; simp [stepG.apply, hr])
theorem XM {i : Nat} {rest : List Nat} {o : Oper} {f : FuncId} {args : Array Value} (ho : ops[i]? = some o) (hw : Region.wanted o (yielded ops a.tmps) = true)
  (hd : ∀ c, o.op ≠ .defer c) (hr : (execOp a.eval o).run P w = .ok (.enter f args) w') :
  step P (lone (b.atR a (.inRegion ops (i :: rest) :: k)) cs w) = .next (lone (Frame.enter P f args .normal) (b.atR a (.inRegion ops (i :: rest) :: k) :: cs) w') :=
 step_lone_go (by rw [stepGR_op ho hw, M3 o hd]; simp [stepG.apply, hr, Frame.atR])
theorem jq {i : Nat} {rest : List Nat} {o : Oper} {l : Nat} {f : FuncId} {tmps : Array Value} {assign body : Code} (ho : ops[i]? = some o)
  (hw : Region.wanted o (yielded ops a.tmps) = true) (hd : ∀ c, o.op ≠ .defer c) (hr : (execOp a.eval o).run P w = .ok (.round l f tmps assign body) w') :
  step P (lone (b.atR a (.inRegion ops (i :: rest) :: k)) cs w) = .next (lone (Frame.round l f tmps assign body .normal) (b.atR a (.inRegion ops (i :: rest) :: k) :: cs) w') :=
 step_lone_go (by rw [stepGR_op ho hw, M3 o hd]; simp [stepG.apply, hr, Frame.atR])
end
end Go.Lf
