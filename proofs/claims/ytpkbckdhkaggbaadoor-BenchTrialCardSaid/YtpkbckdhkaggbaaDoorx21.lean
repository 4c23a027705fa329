/- A part of the proof. -/
import Derived.Test.YtpkbckdhkaggbaaDoorx20
import Derived.RangeFuncLeaves
import Derived.RangeFuncIn
set_option linter.all false
namespace Go.Lf
open Go
section
variable {T : Tables} {g : Gh} {w : World} {tss : List (Array Value)} {s s' : St} {ts : Array Value} {df : List Deferred} {C : AP}
variable {b : Frame} {k : List Item} {cs : List Frame} {ops : Array Oper}
theorem AS.sameHeap (h : AS T g w tss s ts) {w0 : World} (hw0 : w0.heap = w.heap) : AS T g w0 tss s ts := by
 refine h.move (g' := g) (w' := w0) ⟨fun b i u hu => ?_, h.winv.one, fun b es hf => ?_, fun b p hb => ?_, fun n b hb => ?_, fun b d hb => ?_, h.winv.ctr, h.winv.globs⟩ (.refl g) (fun b p _ => ⟨by rw [hw0], fun _ => rfl, rfl, rfl⟩)
 ·rw [← h.winv.im b i u hu]; exact EQ (by rw [hw0])
 ·rw [hw0]; exact h.winv.fm b es hf
 ·rw [hw0]; exact h.winv.ow b p hb
 ·rw [hw0]; exact h.winv.gb n b hb
 ·rw [hw0]; exact h.winv.lp b d hb
theorem AS.more (h : AS T g w tss s ts) {c : Nat} (hc : s.ctr ≤ c) : AS T g w tss { s with ctr := c } ts :=
 ⟨⟨h.winv.im, h.winv.one, h.winv.fm, h.winv.ow, h.winv.gb, h.winv.lp, fun n hn => h.winv.ctr n (Nat.le_trans hc hn), h.winv.globs⟩, h.stack, h.env⟩
theorem AS.keepEnv (h : AS T g w tss s ts) (ks : List Nat) : AS T g w tss { s with env := s.env.keep ks } ts := by
 refine ⟨h.winv, h.stack, fun t sl hs => ?_⟩
 simp only [On] at hs
 split at hs
 ·exact h.env t sl hs
 ·simp at hs
theorem aZ (P : Program) (r : Vf) (ops : Array Oper) : (PX P r ops).length = ops.size := by simp [PX]
theorem jU (hC : MB T C) (hR : KX T C) (hmix : T.P.follows .mixedOrders = true) (hk : b.kind ≠ .early) {r : Vf} {id n : Nat} {draw : Bool} (hdst : ∀ (i : Nat) (o : Oper), ops[i]? = some o → ∀ d, o.dst = some d → d < ts.size)
  (hdraw : draw = true → af (PX T.P r ops) ops = true) (h : AS T g w tss s ts) {jmp : vI} (he : AX T.LP C n (.ops (PX T.P r ops) r.keep) s = some (jmp, s')) :
  jmp = .normal ∧ DL T.P (lone (b.atR ⟨ts, df⟩ (.code (.region id ops draw) :: k)) cs w) fun m' => ∃ g' w' ts', m' = lone (b.atR ⟨ts', df⟩ k) cs w' ∧ ts'.size = ts.size ∧ N5 g w g' w' ∧ AS T g' w' tss s' ts' ∧
   (∀ n, n < s.ctr → g'.gb n = g.gb n) ∧ s.ctr ≤ s'.ctr := by
 simp only [AX] at he
 split at he
 ·rename_i s1 h1
  simp only [Option.some.injEq, Prod.mk.injEq] at he
  obtain ⟨rfl, rfl⟩ := he
  refine ⟨rfl, ?_⟩
  rw [Y6] at h1
  have h0 : AS T g w tss { s with ctr := s.ctr + (PX T.P r ops).length } ts := h.more (Nat.le_add_right _ _)
  have hlen := aZ T.P r ops
  have key : ∀ (σ : List Nat) (w0 : World), w0.heap = w.heap → w0.os = w.os → w0.tape = w.tape → w0.output = w.output → σ.Perm (List.range ops.size) →
    (∃ r', DU T.LP C s.ctr (PX T.P r ops) σ { s with ctr := s.ctr + (PX T.P r ops).length } = some r' ∧ XK s1 r') →
    DL T.P (lone (b.atR ⟨ts, df⟩ (.inRegion ops σ :: k)) cs w0) fun m' => ∃ g' w' ts', m' = lone (b.atR ⟨ts', df⟩ k) cs w' ∧ ts'.size = ts.size ∧ N5 g w g' w' ∧
     AS T g' w' tss { s1 with env := s1.env.keep r.keep } ts' ∧ (∀ n, n < s.ctr → g'.gb n = g.gb n) ∧ s.ctr ≤ s1.ctr := by
   intro σ w0 hw0 ho0 ht0 hp0 hperm hev
   obtain ⟨r', hev, heq⟩ := hev
   have hin0 := h0.sameHeap hw0
   refine (lY (k := k) (cs := cs) (df := df) hC hR hk hdst σ rfl hin0 (hperm.nodup_iff.2 List.nodup_range) (fun i hi => ?_) hev).bind fun m' hm' => ?_
   ·have hi' : i < ops.size := List.mem_range.1 (hperm.subset hi)
    exact ⟨hi', h.winv.ctr _ (by omega), by simp only [hlen]; omega⟩
   ·obtain ⟨g', w', ts', rfl, hsz, hkept, hinv, hg, hc⟩ := hm'
    refine DL.step stepR_region_end (DL.here ⟨g', w', ts', rfl, hsz, ?_, ((hinv.congr heq.symm).keepEnv _), fun n hn => hg n (by simp only; omega) fun i _ => by omega, ?_⟩)
    ·exact ⟨hkept.le, fun b hb ho => by
      have := hkept.unch b (by rw [hw0]; exact hb) ho
      exact ⟨by rw [this.heap, hw0], this.im, this.fm, this.ow⟩, by rw [← hw0]; exact hkept.size, by rw [hkept.os, ho0], by rw [hkept.tape, ht0], by rw [hkept.output, hp0], fun b => by rw [hkept.frz]; unfold QL; rw [hw0]⟩
    ·rw [heq.ctr]
     simp only at hc; omega
  rw [show List.range (PX T.P r ops).length = List.range ops.size by rw [hlen]] at h1
  cases draw with
  | false => exact DL.step stepR_region (key _ w rfl rfl rfl rfl (.refl _) ⟨s1, h1, .refl _⟩)
  | true =>
   refine DL.step stepR_region_draw ?_
   have hsch : Region.schedule (T.P.follows .mixedOrders) ops (w.tape w.drawn (.order b.fn id)) = Region.linearise .any ops (w.tape w.drawn (.order b.fn id)) := by
    simp [Region.schedule, hmix]
   rw [hsch]
   obtain ⟨hp, hap⟩ := jF (hdraw rfl) (w.tape w.drawn (.order b.fn id))
   refine key _ _ rfl rfl rfl rfl hp (P4 T.LP C s.ctr _ _ (List.range ops.size) hp (fun i j hi hj hne hl hs => ?_) List.nodup_range h1)
   refine hap i j ?_ (List.mem_range.1 hj) hs
   obtain ⟨x, y, hxy, hjy⟩ := hl
   have hsorted : (List.range ops.size).Pairwise (· < ·) := List.pairwise_lt_range
   rw [hxy] at hsorted
   exact (List.pairwise_cons.1 (List.pairwise_append.1 hsorted).2.1).1 j hjy
 ·simp at he
def Zr (ds : List Nat) : List Deferred := ds.map fun d => { target := .collected d, args := #[] }
structure iy (g : Gh) (w : World) (b : Frame) (df : List Deferred) (base : Nat) : Prop where
 floor : base ≤ w.heap.size
 kind : (b.roundOf = none ∧ ∃ ds : List Nat, df = Zr ds ∧ ds.Nodup ∧ ∀ d, d ∈ ds → base ≤ d ∧ d < w.heap.size ∧ g.ow d = none ∧ w.heap[d]? = some (.deferred (some []))) ∨
  (df = [] ∧ ∃ l d, b.roundOf = some l ∧ g.lp l = some d)
theorem iy.keep {base : Nat} (h : iy g w b df base) {g' : Gh} {w' : World} (hk : N5 g w g' w') : iy g' w' b df base := by
 refine ⟨Nat.le_trans h.floor hk.size, ?_⟩
 rcases h.kind with ⟨h1, ds, h2, h3, h4⟩ | ⟨h1, l, d, h2, h3⟩
 ·refine .inl ⟨h1, ds, h2, h3, fun d hd => ?_⟩
  obtain ⟨a1, a2, a3, a4⟩ := h4 d hd
  have hu := hk.unch d a2 a3
  exact ⟨a1, Nat.lt_of_lt_of_le a2 hk.size, by rw [hu.ow]; exact a3, by rw [hu.heap]; exact a4⟩
 ·exact .inr ⟨h1, l, d, h2, hk.le.lp _ _ h3⟩
def Qu (b : Frame) (cs : List Frame) (k : List Item) (ts : Array Value) (df : List Deferred) (w : World) (m' : Machine) : vI → Prop
 | .normal => m' = lone (b.atR ⟨ts, df⟩ k) cs w
 | .exit id => ∃ k', m' = lone (b.atR ⟨ts, df⟩ (.code (.exit id) :: k')) cs w ∧ exitTo id k' = exitTo id k
 | .ret => ∃ k', m' = lone (b.atR ⟨ts, df⟩ (.code .ret :: k')) cs w
def M9 (T : Tables) (g : Gh) (w : World) (tss : List (Array Value)) (ctr : Nat) (s' : St) (size : Nat) (b : Frame) (base : Nat) (cs : List Frame) (k : List Item) (jmp : vI) (m' : Machine) : Prop :=
 ∃ g' w' ts' df', N5 g w g' w' ∧ AS T g' w' tss s' ts' ∧ ts'.size = size ∧ iy g' w' b df' base ∧ (∀ n, n < ctr → g'.gb n = g.gb n) ∧ ctr ≤ s'.ctr ∧ Qu b cs k ts' df' w' m' jmp
end
end Go.Lf
namespace Go.Lf
open Go
section
variable {T : Tables} {g : Gh} {w : World} {tss : List (Array Value)} {s s' : St} {ts : Array Value} {df : List Deferred} {C : AP}
variable {b : Frame} {k : List Item} {cs : List Frame} {ops : Array Oper}
def Gh.loop (g : Gh) (l j gen D : Nat) : Gh :=
 { g with ow := fun c => if c = l then some (.loop j) else g.ow c, gb := fun n => if n = gen then some l else g.gb n, lp := fun c => if c = l then some D else g.lp c }
structure sC (w w1 : World) (l D : Nat) (rc : Loop) : Prop where
 old : ∀ b, b < w.heap.size → w1.heap[b]? = w.heap[b]?
 new : w.heap.size ≤ l
 here : w1.heap[l]? = some (.loop rc)
 defers : rc.defers = D
 size : w.heap.size ≤ w1.heap.size
 os : w1.os = w.os
 tape : w1.tape = w.tape
 output : w1.output = w.output
 frz : ∀ b, QL w1 b = QL w b
theorem pg (hW : IU T g w s.ctr) {w1 : World} {l D : Nat} {rc : Loop} (hl : sC w w1 l D rc) (j : Nat) : g.Le (g.loop l j s.ctr D) :=
 ⟨fun _ _ _ h => h, fun _ _ h => h, fun n b h => by
  simp only [Gh.loop]
  split
  ·rename_i e; subst e; rw [hW.ctr _ (Nat.le_refl _)] at h; simp at h
  ·exact h, fun c d h => by
  simp only [Gh.loop]
  split
  ·rename_i e; subst e
   obtain ⟨r, hr, _⟩ := hW.lp _ _ h
   have := (Array.getElem?_eq_some_iff.1 hr).1
   have := hl.new
   omega
  ·exact h⟩
theorem j6 {w1 : World} {l D : Nat} {rc : Loop} (hl : sC w w1 l D rc) (j gen : Nat) {c : Nat} (hc : c < w.heap.size) : NG g w (g.loop l j gen D) w1 c :=
 ⟨hl.old c hc, fun _ => rfl, rfl, by simp only [Gh.loop]; rw [if_neg (by have := hl.new; omega)]⟩
theorem lH (h : IU T g w s.ctr) {w1 : World} {l D : Nat} {rc : Loop} (hl : sC w w1 l D rc) (j : Nat) : IU T (g.loop l j s.ctr D) w1 (s.ctr + 1) where
 im b i u hu := by
  have := h.im b i u hu
  exact (EQ (a := ⟨b, i, none⟩) (hl.old _ (dy this))).trans this
 one := h.one
 fm b es hf := by
  obtain ⟨c, hc⟩ := h.fm b es hf
  exact ⟨c, by rw [hl.old _ (Array.getElem?_eq_some_iff.1 hc).1]; exact hc⟩
 ow b p hb := by
  simp only [Gh.loop] at hb
  split at hb
  ·rename_i e; subst e; exact (Array.getElem?_eq_some_iff.1 hl.here).1
  ·exact Nat.lt_of_lt_of_le (h.ow b p hb) hl.size
 gb n b hb := by
  simp only [Gh.loop] at hb
  split at hb
  ·simp only [Option.some.injEq] at hb; subst hb; exact (Array.getElem?_eq_some_iff.1 hl.here).1
  ·exact Nat.lt_of_lt_of_le (h.gb n b hb) hl.size
 lp c d hb := by
  simp only [Gh.loop] at hb
  split at hb
  ·rename_i e; subst e
   simp only [Option.some.injEq] at hb
   exact ⟨rc, hl.here, by rw [hl.defers, hb]⟩
  ·obtain ⟨r, hr, hd⟩ := h.lp c d hb
   exact ⟨r, by rw [hl.old _ (Array.getElem?_eq_some_iff.1 hr).1]; exact hr, hd⟩
 ctr n hn := by
  simp only [Gh.loop]
  rw [if_neg (by omega)]
  exact h.ctr n (by omega)
 globs n := h.globs n
theorem SH {P : Program} {fn : FuncId} {ps : Array Tmp} {as bd : Code} :
  (Instr.enterLoop fn ts ps as bd none).run P w = .ok (w.heap.size + 1, [{ target := .collected w.heap.size, args := #[] }])
   (World.push (World.push w (.deferred (some []))) (.loop { state := .ready, pending := none, fn, tmps := ts, params := ps, assign := as, body := bd, defers := w.heap.size })) := by
 simp [Instr.enterLoop, World.push]
 rfl
theorem Nw {P : Program} {fn : FuncId} {ps : Array Tmp} {as bd : Code} {l0 : Nat} {r0 : Loop} (h : w.heap[l0]? = some (.loop r0)) :
  (Instr.enterLoop fn ts ps as bd (some l0)).run P w = .ok (w.heap.size, [])
   (World.push w (.loop { state := .ready, pending := none, fn, tmps := ts, params := ps, assign := as, body := bd, defers := r0.defers })) := by
 simp [Instr.enterLoop, Instr.getLoop, getObj, Sem.run, h, World.push, newObj, Sem.bind, bind, pure]
theorem jL {base : Nat} (hW : IU T g w s.ctr) (hdf : iy g w b df base) {ps : Array Tmp} {as bd : Code} :
  ∃ l D mk w1, (Instr.enterLoop b.fn ts ps as bd b.roundOf).run T.P w = .ok (l, mk) w1 ∧
   sC w w1 l D { state := .ready, pending := none, fn := b.fn, tmps := ts, params := ps, assign := as, body := bd, defers := D } ∧
   ∀ g', N5 g w g' w1 → (∀ c, c ≠ l → g'.ow c = g.ow c) → iy g' w1 b (mk ++ df) base := by
 rcases hdf.kind with ⟨h1, ds, h2, h3, h4⟩ | ⟨h1, l0, d0, h2, h3⟩
 ·have hsz : (World.push (World.push w (.deferred (some []))) (.loop { state := .ready, pending := none, fn := b.fn, tmps := ts, params := ps, assign := as, body := bd, defers := w.heap.size })).heap.size = w.heap.size + 2 := by
   rw [EG, EG]
  have hold : ∀ c, c < w.heap.size → (World.push (World.push w (.deferred (some []))) (.loop { state := .ready, pending := none, fn := b.fn, tmps := ts, params := ps, assign := as, body := bd, defers := w.heap.size })).heap[c]? = w.heap[c]? := fun c hc => by
   rw [G2 (by rw [EG]; omega), G2 hc]
  have hD : (World.push (World.push w (.deferred (some []))) (.loop { state := .ready, pending := none, fn := b.fn, tmps := ts, params := ps, assign := as, body := bd, defers := w.heap.size })).heap[w.heap.size]? = some (.deferred (some [])) := by
   rw [G2 (by rw [EG]; omega), KD]
  refine ⟨w.heap.size + 1, w.heap.size, _, _, by rw [h1]; exact SH, ⟨hold, by omega, ?_, rfl, by rw [hsz]; omega, rfl, rfl, rfl, fun c => by rw [VO rfl, VO rfl]⟩, fun g' hk hgo => ⟨by rw [hsz]; have := hdf.floor; omega, .inl ⟨h1, w.heap.size :: ds, by rw [h2]; rfl, ?_, fun d hd => ?_⟩⟩⟩
  ·have := KD (w := World.push w (.deferred (some []))) (o := .loop { state := .ready, pending := none, fn := b.fn, tmps := ts, params := ps, assign := as, body := bd, defers := w.heap.size })
   rw [EG] at this
   exact this
  ·refine List.nodup_cons.2 ⟨fun hm => ?_, h3⟩
   have := (h4 _ hm).2.1
   omega
  ·rcases List.mem_cons.1 hd with rfl | hd
   ·refine ⟨hdf.floor, by rw [hsz]; omega, ?_, hD⟩
    rw [hgo _ (by omega)]
    exact hW.ow_fresh (Nat.le_refl _)
   ·obtain ⟨a1, a2, a3, a4⟩ := h4 d hd
    exact ⟨a1, by rw [hsz]; omega, by rw [hgo _ (by omega)]; exact a3, by rw [hold d a2]; exact a4⟩
 ·obtain ⟨r0, hr0, hrd⟩ := hW.lp _ _ h3
  refine ⟨w.heap.size, r0.defers, [], _, by rw [h2]; exact Nw hr0, ⟨fun c hc => G2 hc, Nat.le_refl _, KD, rfl, by rw [EG]; omega, rfl, rfl, rfl, fun c => VO rfl c⟩, fun g' hk _ => ⟨by rw [EG]; have := hdf.floor; omega, .inr ⟨by simpa using h1, l0, d0, h2, hk.le.lp _ _ h3⟩⟩⟩
theorem db {P : Program} {l : Nat} {r : Loop} (h : w.heap[l]? = some (.loop r)) (hs : r.state ≠ .busy) :
  (Instr.endLoop l).run P w = .ok r.pending (AD w l (.loop { r with state := .exhausted })) := by
 simp [Instr.endLoop, Instr.getLoop, getObj, setObj, Sem.run, h, hs, AD, Sem.bind, bind, pure]
theorem nJ {r : J8} (hp : ∀ q, r.pending = some q → q ≠ .normal) : ((r.pending.bind vI.code).map Item.code).toList = match r.pending.getD .normal with
  | .normal => []
  | .exit id => [Item.code (.exit id)]
  | .ret => [Item.code .ret] := by
 cases hq : r.pending with
 | none => rfl
 | some q =>
  cases q with
  | normal => exact absurd rfl (hp _ hq)
  | exit id => rfl
  | ret => rfl
theorem pf (hC : MB T C) {f : Func} (hf : T.P.funcs[b.fn]? = some f) (hsz : f.ntmps = ts.size) {fo : Operand} {fx : vD} {ps : Array Tmp} {as bd : Code} {base n : Nat}
  (hfo : Aq fo = some fx) (hps : ∀ t, t ∈ ps.toList → t < f.ntmps) (has : FW T.P (T.ann b.fn) f.ntmps as = true) (hbd : FW T.P (T.ann b.fn) f.ntmps bd = true)
  (h : AS T g w tss s ts) (hdf : iy g w b df base) {jmp : vI}
  (he : AX T.LP C n (.rng fx ps.toList (Ce T.P (T.ann b.fn) as) (Ce T.P (T.ann b.fn) bd)) s = some (jmp, s')) :
  DL T.P (lone (b.atR ⟨ts, df⟩ (.code (.rangeFunc fo ps as bd) :: k)) cs w) (M9 T g w tss s.ctr s' ts.size b base cs k jmp) := by
 simp only [AX] at he
 have hF := h.val (df := df) hfo
 split at he
 ·rename_i f' a' b' ht
  obtain ⟨va, vb, hval, ra, rb⟩ := Qw hF ht
  split at he
  ·rename_i v0 low' c' hcall
   split at he
   ·rename_i env r hlast
    split at he
    ·rename_i hcond
     obtain ⟨hlen, hgen, hrp⟩ := hcond
     simp only [Option.some.injEq, Prod.mk.injEq] at he
     obtain ⟨rfl, rfl⟩ := he
     obtain ⟨l, D, mk, w1, hent, hl, hdf1⟩ := jL (T := T) (ts := ts) (ps := ps) (as := as) (bd := bd) h.winv hdf
     obtain ⟨⟨fn', hfn', hname, hbody⟩, hgo⟩ := hC _ _ _ _ _ _ _ hcall
     let g1 := g.loop l s.low.length s.ctr D
     have hle : g.Le g1 := pg h.winv hl _
     have hW1 : IU T g1 w1 (s.ctr + 1) := lH h.winv hl _
     have hun : ∀ c, c < w.heap.size → NG g w g1 w1 c := fun c hc => j6 hl _ _ hc
     have hk1 : N5 g w g1 w1 := ⟨hle, fun c hc _ => hun c hc, hl.size, hl.os, hl.tape, hl.output, hl.frz⟩
     have hgl : g1.gb s.ctr = some l := by simp [g1, Gh.loop]
     have hS1 : F3 T g1 w1 (tss ++ [ts]) (s.low ++ [{ env := s.env, loop := some { gen := s.ctr, params := ps.toList, assign := Ce T.P (T.ann b.fn) as, body := Ce T.P (T.ann b.fn) bd, ready := true, pending := none } }]) := by
      refine ⟨by simp [h.stack.len], fun j ts' fr h1 h2 => ?_⟩
      by_cases hj : j < s.low.length
      ·rw [List.getElem?_append_left hj] at h2
       rw [List.getElem?_append_left (by rw [h.stack.len]; exact hj)] at h1
       exact (h.stack.fr j ts' fr h1 h2).keep hle fun c p hc _ => hun c (h.winv.ow c p hc)
      ·have hl2 := (List.getElem?_eq_some_iff.1 h2).1
       simp only [List.length_append, List.length_singleton] at hl2
       obtain rfl : j = s.low.length := by omega
       have h2' := h2
       simp only [List.getElem?_append_right (Nat.le_refl _), Nat.sub_self, List.getElem?_cons_zero, Option.some.injEq] at h2'
       have h1' : ts' = ts := by
        rw [← h.stack.len] at h1; simpa using h1.symm
       subst h2'; subst h1'
       refine ⟨fun t sl hs => (h.env t sl hs).keep hle fun c i hc => hun c (h.winv.ow c _ hc), fun r0 hr0 => ?_⟩
       simp only [Option.some.injEq] at hr0
       subst hr0
       refine ⟨l, b.fn, ps, as, bd, D, hgl, by simp [g1, Gh.loop], by simp [g1, Gh.loop], ?_, rfl, fun q hq => by simp at hq, f, hf, hsz, has, hbd, hps, rfl, rfl⟩
       exact hl.here
     have hargs : Ds g1 (va ++ #[.func (.yield l) #[] #[]] ++ vb) (a' ++ [.yield s.low.length s.ctr] ++ b') := by
      have up : ∀ {vs : Array Value} {xs : List LV}, Ds g vs xs → Ds g1 vs xs := fun h => ⟨h.size, fun i x hx => ⟨(h.rep i x hx).1.mono hle, (h.rep i x hx).2⟩⟩
      refine ((up ra).append ⟨rfl, fun i x hx => ?_⟩).append (up rb)
      cases i with
      | zero => simp only [List.getElem?_cons_zero, Option.some.injEq] at hx; subst hx; exact ⟨.yield hgl, rfl⟩
      | succ i => simp at hx
     have hres : (resolve (⟨ts, df⟩ : Act).eval (rangeCall fo l) 0).run T.P w1 = .ok { target := .fn (.func f') vb, args := va ++ #[.func (.yield l) #[] #[]] } w1 := by
      simp only [resolve, rangeCall, hval, Deferred.ofValue]
      simp [Act.eval]
     have hinv : (invoke (.fn (.func f') vb) (va ++ #[.func (.yield l) #[] #[]])).run T.P w1 = .ok (.enter f' (va ++ #[.func (.yield l) #[] #[]] ++ vb)) w1 := by
      simp only [invoke, RH hfn' hname hbody]
     refine DL.step (stepR_rangeFunc hent hres hinv) ((hgo g1 w1 _ _ hW1 hS1 hargs _).bind fun m' hm' => ?_)
     obtain ⟨fr', w2, v2, g2, rfl, hff, hleave, _, _, ha⟩ := hm'
     refine DL.step (step_leave_returned hleave) ?_
     rw [finish_atR_inRangeFunc]
     have hlast' : low'[s.low.length]? = some { env, loop := some r } := by
      rw [List.getLast?_eq_getElem?, hlen] at hlast
      simpa using hlast
     have htop : (tss ++ [ts])[s.low.length]? = some ts := by rw [← h.stack.len]; simp
     have hfr := ha.stack.fr s.low.length ts _ htop hlast'
     obtain ⟨l2, fn2, ps2, as2, bd2, df2, e1, e2, e3, e4, e5, e6, _⟩ := hfr.loop r rfl
     have hl2 : l2 = l := by
      rw [hgen] at e1
      have := ha.kept.le.gb _ _ hgl
      rw [this] at e1
      simpa using e1.symm
     subst hl2
     have hst : (Cd r.ready r.pending) ≠ LoopState.busy := by
      unfold Cd
      rcases hrp with h1 | h1
      ·simp [h1]
      ·cases hq : r.pending with
       | none => rw [hq] at h1; simp at h1
       | some q => by_cases hr : r.ready = true <;> simp [hr]
     refine DL.step (stepR_endRangeFunc (db e4 hst)) (DL.here ?_)
     have hlw2 : l2 < w2.heap.size := (Array.getElem?_eq_some_iff.1 e4).1
     have hlnew := hl.new
     have hset : ∀ c, c ≠ l2 → (AD w2 l2 (.loop { ({ state := Cd r.ready r.pending, pending := r.pending.bind vI.code, fn := fn2, tmps := ts, params := ps2, assign := as2, body := bd2, defers := df2 } : Loop) with state := .exhausted })).heap[c]? = w2.heap[c]? := fun c hc => by
      rw [Au _ _ _ _ hlw2, if_neg hc]
     have hW3 : IU T g2 (AD w2 l2 (.loop { ({ state := Cd r.ready r.pending, pending := r.pending.bind vI.code, fn := fn2, tmps := ts, params := ps2, assign := as2, body := bd2, defers := df2 } : Loop) with state := .exhausted })) c' := by
      refine ⟨fun c i u hu => ?_, ha.winv.one, fun c es hc => ?_, fun c p hc => by simpa [AD] using ha.winv.ow c p hc, fun m c hc => by simpa [AD] using ha.winv.gb m c hc, fun c d hc => ?_, ha.winv.ctr, ha.winv.globs⟩
      ·have hcell := ha.winv.im c i u hu
       have hne : c ≠ l2 := fun e => by subst e; simp [World.cell?, e4] at hcell
       exact (EQ (a := ⟨c, i, none⟩) (hset c hne)).trans hcell
      ·obtain ⟨cl, hcl⟩ := ha.winv.fm c es hc
       have hne : c ≠ l2 := fun e => by subst e; rw [e4] at hcl; simp at hcl
       exact ⟨cl, by rw [hset c hne]; exact hcl⟩
      ·obtain ⟨r3, hr3, hd3⟩ := ha.winv.lp c d hc
       by_cases hcl : c = l2
       ·subst hcl
        rw [e4] at hr3
        simp only [Option.some.injEq, Obj.loop.injEq] at hr3
        refine ⟨_, by rw [Au _ _ _ _ hlw2, if_pos rfl], ?_⟩
        rw [← hd3, ← hr3]
       ·exact ⟨r3, by rw [hset c hcl]; exact hr3, hd3⟩
     have hun2 : ∀ c p, g2.ow c = some p → p ≠ .loop s.low.length → NG g2 w2 g2 (AD w2 l2 (.loop { ({ state := Cd r.ready r.pending, pending := r.pending.bind vI.code, fn := fn2, tmps := ts, params := ps2, assign := as2, body := bd2, defers := df2 } : Loop) with state := .exhausted })) c := fun c p hc hp =>
      ⟨hset c fun e => by subst e; rw [e3] at hc; simp only [Option.some.injEq] at hc; exact hp hc.symm, fun _ => rfl, rfl, rfl⟩
     have hlen' : (low'.dropLast).length = s.low.length := by simp [hlen]
     have hkall : N5 g w g2 (AD w2 l2 (.loop { ({ state := Cd r.ready r.pending, pending := r.pending.bind vI.code, fn := fn2, tmps := ts, params := ps2, assign := as2, body := bd2, defers := df2 } : Loop) with state := .exhausted })) := by
      have hk := hk1.trans ha.kept
      exact ⟨hk.le, fun c hc ho => by
       have := hk.unch c hc ho
       exact ⟨by rw [hset c (by omega)]; exact this.heap, this.im, this.fm, this.ow⟩, by simpa [AD] using hk.size, hk.os, hk.tape, hk.output, fun c => by
       rw [← hk.frz c]
       unfold QL
       by_cases hc : c = l2
       ·subst hc; rw [Au _ _ _ _ hlw2, if_pos rfl, e4]; rfl
       ·rw [hset c hc]⟩
     have hdfk : iy g2 (AD w2 l2 (.loop { ({ state := Cd r.ready r.pending, pending := r.pending.bind vI.code, fn := fn2, tmps := ts, params := ps2, assign := as2, body := bd2, defers := df2 } : Loop) with state := .exhausted })) b (mk ++ df) base := by
      have hd1 : iy g1 w1 b (mk ++ df) base := hdf1 g1 hk1 fun c hc => by simp [g1, Gh.loop, hc]
      have hd2 := hd1.keep ha.kept
      refine ⟨by simpa [AD] using hd2.floor, ?_⟩
      rcases hd2.kind with ⟨q1, ds, q2, q3, q4⟩ | q
      ·refine .inl ⟨q1, ds, q2, q3, fun d hd => ?_⟩
       obtain ⟨z1, z2, z3, z4⟩ := q4 d hd
       have hne : d ≠ l2 := fun e => by subst e; rw [e4] at z4; simp at z4
       exact ⟨z1, by simpa [AD] using z2, z3, by rw [hset d hne]; exact z4⟩
      ·exact .inr q
     refine ⟨g2, _, ts, mk ++ df, hkall, ⟨hW3, ⟨by rw [hlen', h.stack.len], fun j ts' fr3 h1 h2 => ?_⟩, fun t sl hs => ?_⟩, rfl, hdfk, fun m hm => ?_, ?_, ?_⟩
     ·have hj : j < s.low.length := by rw [← hlen']; exact (List.getElem?_eq_some_iff.1 h2).1
      have h2' : low'[j]? = some fr3 := by
       rw [List.getElem?_dropLast] at h2
       split at h2
       ·exact h2
       ·simp at h2
      have h1' : (tss ++ [ts])[j]? = some ts' := by rw [List.getElem?_append_left (by rw [h.stack.len]; exact hj)]; exact h1
      exact (ha.stack.fr j ts' fr3 h1' h2').keep (.refl g2) fun c p hc hp => hun2 c p hc fun e => by subst e; simp only [DX.level] at hp; omega
     ·simp only [hlen']
      exact (hfr.env t sl hs).keep (.refl g2) fun c i hc => hun2 c _ hc (by simp)
     ·rw [ha.gens m (by omega)]
      simp only [g1, Gh.loop]
      rw [if_neg (by omega)]
     ·have := ha.mono
      simp only; omega
     ·rw [nJ e6]
      cases hj : r.pending.getD .normal with
      | normal => rfl
      | exit id => exact ⟨k, rfl, rfl⟩
      | ret => exact ⟨k, rfl⟩
    ·simp at he
   ·simp at he
  ·simp at he
 ·simp at he
end
end Go.Lf
