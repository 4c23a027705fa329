/- A part of the proof. -/
import Derived.Test.YtbkliocalcihjaaDoorx12
import GoSem.Instr.MapEntry
set_option linter.all false
namespace Go.Lf
open Go
theorem aC {P : Program} {w : World} {em : Bool} : ∀ (d : Nat) (t : TypeId) (n : Nat), O9 P d t = some n → ∀ (e : Nat), d ≤ e → ∀ (ks : List Int), ks.length = n →
  (Instr.checkKey em e t (ax P t ks)).run P w = .ok () w := by
 intro d
 induction d with
 | zero => intro t n h; simp [O9] at h
 | succ d ih =>
  intro t n h e he ks hk
  obtain ⟨e, rfl⟩ : ∃ e', e = e' + 1 := ⟨e - 1, by omega⟩
  simp only [O9] at h
  split at h
  ·rename_i hu hi
   simp [Instr.checkKey, Ae hu, ax, hu]
  ·rename_i fs i hu hi
   split at h
   ·simp at h
   ·split at h
    ·rename_i n' hf
     split at h
     ·simp only [Option.some.injEq] at h
      subst h
      rw [Ot hu rfl]
      simp only [Instr.checkKey, Sem.run_bind, Ae hu, Result.andThen_ok]
      have key : ∀ (fl : List Field) (acc : Nat), Ef (O9 P d) fl acc = some n' → acc ≤ n' ∧ (Sem.run P (forIn fl () fun f (_ : Unit) => do
        if f.name ≠ "_" then
         Instr.checkKey em e f.type (← Go.part f.type (ks.map (Value.int .i64)).toArray f.offset)
        pure (ForInStep.yield ())) w) = .ok () w := by
       intro fl
       induction fl with
       | nil =>
        intro acc h
        simp only [Ef, Option.some.injEq] at h
        subst h
        exact ⟨Nat.le_refl _, by simp⟩
       | cons f fl ihf =>
        intro acc h
        simp only [Ef] at h
        split at h
        ·simp at h
        ·rename_i hn
         split at h
         ·rename_i m hm
          have h1 := ihf _ h
          obtain ⟨hname, hoff⟩ : ¬ f.name = "_" ∧ f.offset = acc := by
           constructor
           ·exact fun h => hn (.inl h)
           ·exact Classical.byContradiction fun h => hn (.inr h)
          refine ⟨by omega, ?_⟩
          have p1 := FC (w := w) hm ks acc (by omega)
          have q := ih f.type m hm e (by omega) ((ks.drop acc).take m) (by simp; omega)
          rw [List.forIn_cons]
          simp only [ne_eq, hname, not_false_eq_true, if_true, Sem.run_bind, hoff, p1, Result.andThen_ok, q, Sem.run_pure]
          have := h1.2
          simpa using this
         ·simp at h
      have := (key fs.toList 0 hf).2
      simp at this ⊢
      exact (congrArg (fun r => Result.andThen r _) this).trans rfl
     ·simp at h
    ·simp at h
  ·rename_i len el i hu hi
   split at h
   ·rename_i m hm
    split at h
    ·simp only [Option.some.injEq] at h
     subst h
     obtain ⟨ie, hie, hse⟩ := WB hm
     rw [Ot hu rfl]
     simp only [Instr.checkKey, Sem.run_bind, Ae hu, Result.andThen_ok]
     have key : ∀ (r k : Nat), k + r = len → (Sem.run P (forIn (List.range' k r) () fun i (_ : Unit) => do
        Instr.checkKey em e el (← Go.part el (ks.map (Value.int .i64)).toArray (i * (← sizeOf el)))
        pure (ForInStep.yield ())) w) = .ok () w := by
      intro r
      induction r with
      | zero => intro k _; simp
      | succ r ihr =>
       intro k hkr
       have hle : k * m + m ≤ len * m := by
        have : (k + 1) * m ≤ len * m := Nat.mul_le_mul_right m (by omega)
        rw [Nat.add_mul] at this; omega
       have p1 := FC (w := w) hm ks (k * m) (by omega)
       have q := ih el m hm e (by omega) ((ks.drop (k * m)).take m) (by simp; omega)
       rw [List.range'_succ, List.forIn_cons]
       simp only [Sem.run_bind, CO hie, hse, p1, Result.andThen_ok, q, Sem.run_pure]
       have ih2 := ihr (k + 1) (by omega)
       simpa using ih2
     have := key len 0 (by omega)
     simp at this ⊢
     exact (congrArg (fun r => Result.andThen r _) this).trans rfl
    ·simp at h
   ·simp at h
  ·simp at h
theorem FB {P : Program} {w : World} {em : Bool} {t : TypeId} {n : Nat} (h : f9 P t = some n) {ks : List Int} {v : Value} (hv : Ww n ks v) :
  (Instr.checkKey em 10000 t v).run P w = .ok () w := by
 obtain ⟨hf, _⟩ := PK h
 rw [bM h hv]
 exact aC 5 t n hf 10000 (by omega) ks hv.1
theorem lu {P : Program} {w : World} {t : TypeId} {n : Nat} (h : f9 P t = some n) {ks ls : List Int} {u v : Value} (hu : Ww n ks u) (hv : Ww n ls v) :
  (Op.equal t u v).run P w = .ok (decide (ks = ls)) w := by
 obtain ⟨hf, _⟩ := PK h
 rw [bM h hu, bM h hv]
 exact Nh hf hu.1 hv.1
theorem Nn {P : Program} {w : World} {α : Type} {t : TypeId} {n : Nat} (h : f9 P t = some n) {ks : List Int} {kv : Value} (hk : Ww n ks kv) :
  ∀ (l : List MapEntry) (es : List (List Int × α)) (i : Nat), l.length = es.length → (∀ (j : Nat) (p : List Int × α) (e : MapEntry), es[j]? = some p → l[j]? = some e → Ww n p.1 e.key) →
   (Instr.findAsking t kv l i).run P w = .ok ((AN ks es i).map fun p => (p.1, (l.getD (p.1 - i) default).val)) w ∧ ∀ p, AN ks es i = some p → i ≤ p.1
 | [], es, i, hl, hr => by
  have : es = [] := List.length_eq_zero_iff.1 (by simpa using hl.symm)
  subst this
  exact ⟨rfl, fun p hp => by simp [AN] at hp⟩
 | e :: l, [], i, hl, hr => by simp at hl
 | e :: l, (k', v) :: es, i, hl, hr => by
  have h0 := hr 0 (k', v) e rfl rfl
  obtain ⟨ih, ih2⟩ := Nn (w := w) h hk l es (i + 1) (by simpa using hl) fun j p e hp he => hr (j + 1) p e (by simpa using hp) (by simpa using he)
  simp only [Instr.findAsking, Sem.run_bind, lu (w := w) h hk h0, Result.andThen_ok, AN]
  by_cases hkk : ks = k'
  ·subst hkk
   simp
  ·rw [if_neg (by simpa using hkk), if_neg (fun e => hkk e.symm)]
   refine ⟨?_, fun p hp => by have := ih2 p hp; omega⟩
   rw [ih]
   congr 1
   cases hg : AN ks es (i + 1) with
   | none => rfl
   | some p =>
    have := ih2 p hg
    simp only [Option.map_some, Option.some.injEq, Prod.mk.injEq, true_and]
    rw [show p.1 - i = (p.1 - (i + 1)) + 1 by omega, List.getD_cons_succ]
theorem Vy {α : Type} {a : Int} : ∀ (l : List MapEntry) (es : List (List Int × α)) (i : Nat), l.length = es.length → (∀ (j : Nat) (p : List Int × α) (e : MapEntry), es[j]? = some p → l[j]? = some e → Ww 1 p.1 e.key) →
   Instr.findNow (.int .i64) (.int .i64 a) l i = some ((AN [a] es i).map fun p => (p.1, (l.getD (p.1 - i) default).val)) ∧ ∀ p, AN [a] es i = some p → i ≤ p.1
 | [], es, i, hl, hr => by
  have : es = [] := List.length_eq_zero_iff.1 (by simpa using hl.symm)
  subst this
  exact ⟨rfl, fun p hp => by simp [AN] at hp⟩
 | e :: l, [], i, hl, hr => by simp at hl
 | e :: l, (k', v) :: es, i, hl, hr => by
  have h0 := hr 0 (k', v) e rfl rfl
  obtain ⟨ih, ih2⟩ := Vy (a := a) l es (i + 1) (by simpa using hl) fun j p e hp he => hr (j + 1) p e (by simpa using hp) (by simpa using he)
  obtain ⟨h1, h2⟩ := h0
  match k', h1 with
  | [b], _ =>
   simp only [if_true, List.headD_cons] at h2
   simp only [Instr.findNow, h2, Instr.sameNow, if_true, AN]
   by_cases hkk : a = b
   ·subst hkk
    simp
   ·rw [if_neg (by simpa using fun e : b = a => hkk e.symm)]
    have hab : (a == b) = false := by simpa using hkk
    simp only [hab]
    refine ⟨?_, fun p hp => by have := ih2 p hp; omega⟩
    rw [ih]
    congr 1
    cases hg : AN [a] es (i + 1) with
    | none => rfl
    | some p =>
     have := ih2 p hg
     simp only [Option.map_some, Option.some.injEq, Prod.mk.injEq, true_and]
     rw [show p.1 - i = (p.1 - (i + 1)) + 1 by omega, List.getD_cons_succ]
theorem gU {d : TypeDesc} (hd : bi d = true) (v : Value) (l : List MapEntry) (i : Nat) : Instr.findNow d v l i = if l = [] then some none else none := by
 cases l with
 | nil => rfl
 | cons e l =>
  cases d <;> simp [bi] at hd <;> simp [Instr.findNow, Instr.sameNow]
theorem Fj {P : Program} {w : World} {α : Type} {t : TypeId} {n : Nat} (h : f9 P t = some n) {ks : List Int} {kv : Value} (hk : Ww n ks kv)
  (l : List MapEntry) (es : List (List Int × α)) (hl : l.length = es.length) (hr : ∀ (j : Nat) (p : List Int × α) (e : MapEntry), es[j]? = some p → l[j]? = some e → Ww n p.1 e.key) :
  (Instr.findKey t kv l).run P w = .ok ((AN ks es 0).map fun p => (p.1, (l.getD p.1 default).val)) w := by
 obtain ⟨hf, dd, hu, hd⟩ := PK h
 simp only [Instr.findKey, Sem.run_bind, Ae hu, Result.andThen_ok]
 rcases hd with ⟨rfl, rfl⟩ | ⟨h1, ha⟩
 ·obtain ⟨g1, g2⟩ := hk
  match ks, g1 with
  | [a], _ =>
   simp only [if_true, List.headD_cons] at g2
   subst g2
   rw [(Vy (a := a) l es 0 hl hr).1]
   simp
 ·rw [gU ha]
  by_cases hnil : l = []
  ·subst hnil
   have : es = [] := List.length_eq_zero_iff.1 (by simpa using hl.symm)
   subst this
   simp [AN]
  ·rw [if_neg hnil]
   have := (Nn (w := w) h hk l es 0 hl hr).1
   simpa using this
theorem Zq : ∀ (ks : List Int) (n : Nat), (((ks.map (Value.int .i64)).zip (ks.map (Value.int .i64))).all fun (x, y) => Instr.sameBits n x y) = true := by
 intro ks n
 rw [List.all_eq_true]
 intro p hp
 obtain ⟨i, hi, hip⟩ := List.getElem_of_mem hp
 simp only [List.getElem_zip, List.getElem_map] at hip
 subst hip
 cases n <;> simp [Instr.sameBits]
theorem Rh {n : Nat} {ks : List Int} {u v : Value} (hu : Ww n ks u) (hv : Ww n ks v) : Instr.sameBits 10000 u v = true := by
 rw [hu.2, hv.2]
 split
 ·simp [Instr.sameBits]
 ·have := Zq ks 9999
  simp only [Instr.sameBits]
  simpa using this
theorem FN {α : Type} {ks : List Int} : ∀ {es : List (List Int × α)} {i : Nat} {p : Nat × α}, AN ks es i = some p → i ≤ p.1 ∧ es[p.1 - i]? = some (ks, p.2)
 | [], _, _, h => by simp [AN] at h
 | (k', v) :: r, i, p, h => by
  simp only [AN] at h
  split at h
  ·rename_i hk
   simp only [Option.some.injEq] at h
   subst h; subst hk
   simp
  ·obtain ⟨h1, h2⟩ := FN h
   refine ⟨by omega, ?_⟩
   rw [show p.1 - i = (p.1 - (i + 1)) + 1 by omega]
   simpa using h2
end Go.Lf
namespace Go.Lf
open Go
section
variable {T : Tables} {g : Gh} {w : World} {tss : List (Array Value)} {s s' : St} {ts : Array Value} {dst : Option Nat} {gi : Nat} {df : List Deferred} {C : AM}
theorem Jx {P : Program} {b : Nat} {es : Array MapEntry} {c : Nat} (h : w.heap[b]? = some (.map es c)) : (getObj b).run P w = .ok (.map es c) w := by
 simp [getObj, Sem.run, h]
theorem Js {P : Program} {b : Nat} {es : Array MapEntry} {c : Nat} (h : w.heap[b]? = some (.map es c)) (o : Obj) : (setObj b o).run P w = .ok () (AE w b o) := by
 simp [setObj, Sem.run, h, AE]
theorem bD {b : Nat} {o : Obj} (h : w.heap[b]? = some o) : AE w b o = w := by
 unfold AE
 have : w.heap.setIfInBounds b o = w.heap := by
  apply Array.ext
  ·simp
  ·intro i h1 h2
   rw [Array.getElem_setIfInBounds (by simpa using h1)]
   split
   ·rename_i e; subst e
    exact ((Array.getElem?_eq_some_iff.1 h).2).symm
   ·rfl
 rw [this]
theorem I2.turnedMap {c : Nat} (h : I2 T g w c) {b : Nat} {es es1 : Array MapEntry} {k k1 : Nat} (hh : w.heap[b]? = some (.map es k)) (hf : g.fm b = none) :
  I2 T g (AE w b (.map es1 k1)) c where
 im b' i u hu := by
  have hb : b < w.heap.size := (Array.getElem?_eq_some_iff.1 hh).1
  have : b' ≠ b := fun e => by subst e; have := h.im _ _ _ hu; simp [World.cell?, hh] at this
  exact (Ej (a := ⟨b', i, none⟩) (by show (AE w b _).heap[b']? = _; rw [Az _ _ _ _ hb, if_neg this])).trans (h.im _ _ _ hu)
 one := h.one
 fm b' e hf' := by
  have hb : b < w.heap.size := (Array.getElem?_eq_some_iff.1 hh).1
  have : b' ≠ b := fun e => by subst e; rw [hf] at hf'; simp at hf'
  rw [Az _ _ _ _ hb, if_neg this]
  exact h.fm _ _ hf'
 ow b' p hp := by simpa [AE] using h.ow _ _ hp
 gb n b' hn := by simpa [AE] using h.gb _ _ hn
 lp b' d hb' := by
  have hb : b < w.heap.size := (Array.getElem?_eq_some_iff.1 hh).1
  obtain ⟨r, hr, hd⟩ := h.lp b' d hb'
  have : b' ≠ b := fun e => by subst e; rw [hh] at hr; simp at hr
  exact ⟨r, by rw [Az _ _ _ _ hb, if_neg this]; exact hr, hd⟩
 ctr := h.ctr
 globs := h.globs
theorem J9 {b c : Nat} {o : Obj} (hb : b < w.heap.size) (hc : c ≠ b) : NQ g w g (AE w b o) c :=
 ⟨by rw [Az _ _ _ _ hb, if_neg hc], fun _ => rfl, rfl, rfl⟩
theorem al {b : Nat} {p : DR} {o : Obj} (hfz : iE (some o) = iE w.heap[b]?) (hb : b < w.heap.size) (ho : g.ow b = some p) : N7 g w g (AE w b o) :=
 ⟨.refl g, fun c _ hc => J9 hb fun e => by subst e; rw [ho] at hc; simp at hc, by simp [AE], rfl, rfl, rfl, fun c => by
  unfold Qg
  by_cases hc : c = b
  ·subst hc; rw [Az _ _ _ _ hb, if_pos rfl, hfz]
  ·rw [Az _ _ _ _ hb, if_neg hc]⟩
theorem AV.setMap (h : AV T g w tss s ts) {j t gn n : Nat} {es : List (List Int × LV)} (hc : s.entries j t gn n = some es) {es1' : Array MapEntry} {es1 : List (List Int × LV)}
  (hn : es1'.size = es1.length) (hborn : ∀ i, i < es1'.size → (es1'.getD i default).born = i) (hk : ∀ i p, es1[i]? = some p → Ww n p.1 (es1'.getD i default).key)
  (hr : ∀ i p, es1[i]? = some p → Bm g (es1'.getD i default).val p.2 ∧ zu g w (.slot j t (i + 1)) (es1'.getD i default).val p.2) {b : Nat} (hb : g.gb gn = some b) :
  N7 g w g (AE w b (.map es1' es1'.size)) ∧ AV T g (AE w b (.map es1' es1'.size)) tss (s.setAt j t (.mapo gn n es1)) ts := by
 obtain ⟨hat, b', es', hval, hgb, how, hheap, hf, _⟩ := h.entries hc
 rw [hb] at hgb
 simp only [Option.some.injEq] at hgb
 subst hgb
 have hlt : b < w.heap.size := (Array.getElem?_eq_some_iff.1 hheap).1
 refine ⟨al (by rw [hheap]; rfl) hlt how, h.setAt hat (h.winv.turnedMap hheap hf) (.refl g) (fun c p hcp hp => J9 hlt fun e => ?_) ?_⟩
 ·subst e; rw [how] at hcp; simp only [Option.some.injEq] at hcp; exact hp 0 hcp.symm
 ·rw [hval]
  refine .mapo hb how (by rw [Az _ _ _ _ hlt, if_pos rfl]) hf hn hborn hk fun i p hp => ⟨(hr i p hp).1, (hr i p hp).2.keep fun b' hb' => J9 hlt fun e => ?_⟩
  subst e
  rw [how] at hb'
  simp only [Option.some.injEq, DR.slot.injEq] at hb'
  omega
theorem nT {t : TypeId} {n : Nat} {o : Oper} (h : AV T g w tss s ts) (hd : ∀ d, dst = some d → d < ts.size) (hgi : gi < s.ctr) (hg : g.gb gi = none)
  (ho : o.op = .makeMap t none) (he : evalOp T.LP C gi dst (.mkmap n) s = some s') :
  Bd T g w tss s s' ts dst gi ((execOp (⟨ts, df⟩ : Act).eval o).run T.P w) := by
 simp only [evalOp] at he
 split at he
 ·rename_i d
  simp only [Option.some.injEq] at he
  subst he
  have hgn : ∀ n, some gi = some n → n < s.ctr ∧ g.gb n = none := fun n e => by simp only [Option.some.injEq] at e; subst e; exact ⟨hgi, hg⟩
  refine ⟨g.fresh w.heap.size (.slot s.low.length d 0) (some gi), World.push w (.map #[] 0), .map (some w.heap.size), .inl ?_, ZV h.winv _ rfl _ hgn, (h.fresh _ _ hgn).setSlot (hd _ rfl) ?_, fun n _ hne => ?_⟩
  ·simp [execOp, ho, Instr.makeMap, World.push]
  ·refine .mapo (es' := #[]) (by simp [Gh.fresh]) (by simp [Gh.fresh]) K0 (h.winv.fm_fresh (Nat.le_refl _)) rfl (fun i hi => by simp at hi) (fun i p hp => by simp at hp) (fun i p hp => by simp at hp)
  ·simp only [Gh.fresh, Option.some.injEq]
   rw [if_neg (fun e => hne e.symm)]
 ·simp at he
theorem HC {α : Type} [Inhabited α] (a : Array α) (i k : Nat) (f : α → α) : (a.modify i f).getD k default = if i = k ∧ k < a.size then f (a.getD k default) else a.getD k default := by
 by_cases hk : k < a.size
 ·simp only [Array.getD, Array.size_modify, hk, dif_pos, and_true, Array.getInternal_eq_getElem, Array.getElem_modify]
 ·simp [Array.getD, hk]
theorem Jt {α : Type} [Inhabited α] (a : Array α) (k : Nat) (x : α) : (a.push x).getD k default = if k = a.size then x else a.getD k default := by
 by_cases hk : k < a.size
 ·rw [if_neg (by omega)]
  simp [Array.getD, hk, Nat.lt_succ_of_lt hk, Array.getElem_push]
 ·by_cases hk2 : k = a.size
  ·subst hk2; simp [Array.getD]
  ·have : ¬ k < a.size + 1 := by omega
   simp [Array.getD, hk, hk2, this]
theorem QG {n : Nat} {α : Type} {es : List (List Int × α)} {es' : Array MapEntry} (hk : ∀ i p, es[i]? = some p → Ww n p.1 (es'.getD i default).key) :
  ∀ (j : Nat) (p : List Int × α) (e : MapEntry), es[j]? = some p → es'.toList[j]? = some e → Ww n p.1 e.key := fun j p e hp he => by
 have := hk j p hp
 simp only [Array.getElem?_toList] at he
 rwa [Array.getD_eq_getD_getElem?, he] at this
theorem SB (a : Array MapEntry) (i : Nat) : a.toList.getD i default = a.getD i default := by
 simp [List.getD, Array.getD_eq_getD_getElem?]
theorem Ze {t key e : TypeId} {n : Nat} {mo ko vo : Operand} {m k v : Opd} {o : Oper} (h : AV T g w tss s ts) (hd : dst = none)
  (hu : T.P.underlying t = some (.map key e)) (hkn : f9 T.P key = some n) (hm : As mo = some m) (hk : As ko = some k) (hv : As vo = some v)
  (ho : o.op = .insert t mo ko vo ∨ o.op = .mapUpdate t mo ko vo) (he : evalOp T.LP C gi dst (.mapset n m k v) s = some s') :
  Bd T g w tss s s' ts dst gi ((execOp (⟨ts, df⟩ : Act).eval o).run T.P w) := by
 subst hd
 have hexec : execOp (⟨ts, df⟩ : Act).eval o = (do Instr.mapUpdate t ((⟨ts, df⟩ : Act).eval mo) ((⟨ts, df⟩ : Act).eval ko) ((⟨ts, df⟩ : Act).eval vo); pure .skip) := by
  rcases ho with ho | ho <;> simp only [execOp, ho]
 rw [hexec]
 simp only [evalOp] at he
 have hM := h.val (df := df) hm
 have hK := h.val (df := df) hk
 split at he
 ·rename_i j tm g' ks hmv hks
  rw [hmv] at hM
  obtain ⟨b, hvm, hgb⟩ := hM.mref'
  have hkv := hK.key hks
  have hrun : ∀ es' : Array MapEntry, w.heap[b]? = some (.map es' es'.size) → ∀ (es : List (List Int × LV)), es'.size = es.length → (∀ i p, es[i]? = some p → Ww n p.1 (es'.getD i default).key) →
    (Instr.mapUpdate t ((⟨ts, df⟩ : Act).eval mo) ((⟨ts, df⟩ : Act).eval ko) ((⟨ts, df⟩ : Act).eval vo)).run T.P w = .ok () (AE w b (match AN ks es 0 with
     | some p => .map (es'.modify p.1 fun e => { e with key := (⟨ts, df⟩ : Act).eval ko, val := (⟨ts, df⟩ : Act).eval vo }) es'.size
     | none => .map (es'.push { key := (⟨ts, df⟩ : Act).eval ko, val := (⟨ts, df⟩ : Act).eval vo, born := es'.size }) (es'.size + 1))) := by
   intro es' hheap es hn hkk
   have hfk := Fj (w := w) hkn hkv es'.toList es (by simpa using hn) (QG hkk)
   simp only [Instr.mapUpdate, hvm, Sem.run_bind, Ae hu, Result.andThen_ok, Jx hheap, FB hkn hkv, hfk]
   cases hg : AN ks es 0 with
   | none => simp only [Option.map_none, Js hheap]
   | some p =>
    obtain ⟨_, hp⟩ := FN hg
    have hlt : p.1 < es'.size := by rw [hn]; have := (List.getElem?_eq_some_iff.1 hp).1; omega
    have hold := hkk p.1 _ (by simpa using hp)
    have hgd : ((es'[p.1]?).map (·.key)).getD ((⟨ts, df⟩ : Act).eval ko) = (es'.getD p.1 default).key := by simp [hlt, Array.getD]
    simp only [Option.map_some, hgd, Instr.keyThatStays, Rh hold hkv, if_true, Sem.run_bind, Sem.run_pure, Result.andThen_ok, Js hheap]
  split at he
  ·rename_i es hes
   obtain ⟨g1, h1, h2, h3, h4, h5, h6, h7, h8, h9, h10⟩ := h.takeTo (df := df) hv (.slot j tm ((match AN ks es 0 with | some p => p.1 | none => es.length) + 1))
   obtain ⟨hat, b', es', hval, hgb', how, hheap, hf, hn, hborn, hkk, hrr⟩ := h2.entries hes
   rw [h6, hgb] at hgb'
   simp only [Option.some.injEq] at hgb'
   subst hgb'
   have hr := hrun es' hheap es hn hkk
   split at he
   ·rename_i i vold hg
    rw [hg] at hr h9
    simp only at h9 hr
    simp only [Option.some.injEq] at he
    subst he
    obtain ⟨_, hp⟩ := FN hg
    have hil : i < es.length := by have := (List.getElem?_eq_some_iff.1 hp).1; omega
    have := h2.setMap hes (es1' := es'.modify i fun e => { e with key := (⟨ts, df⟩ : Act).eval ko, val := (⟨ts, df⟩ : Act).eval vo }) (es1 := es.set i (ks, (s.take T.LP v).1)) (by simpa using hn)
     (fun q hq => by
      rw [HC]
      simp only [Array.size_modify] at hq
      have := hborn q hq
      by_cases hc : i = q ∧ q < es'.size
      ·rw [if_pos hc]; exact this
      ·rw [if_neg hc]; exact this) (fun q p hq => by
      rw [HC]
      rw [KH] at hq
      split at hq
      ·rename_i hc; obtain ⟨rfl, hc⟩ := hc
       simp only [Option.some.injEq] at hq; subst hq
       rw [if_pos ⟨rfl, by omega⟩]; exact hkv
      ·split at hq
       ·simp at hq
       ·rename_i hne
        rw [if_neg (fun hc => hne hc.1)]; exact hkk q p hq) (fun q p hq => by
      rw [HC]
      rw [KH] at hq
      split at hq
      ·rename_i hc; obtain ⟨rfl, hc⟩ := hc
       simp only [Option.some.injEq] at hq; subst hq
       rw [if_pos ⟨rfl, by omega⟩]; exact ⟨h1, h9⟩
      ·split at hq
       ·simp at hq
       ·rename_i hne
        rw [if_neg (fun hc => hne hc.1)]; exact hrr q p hq) (b := b) (by rw [h6]; exact hgb)
    rw [Array.size_modify] at this
    exact ⟨g1, _, Go.undef, .inr ⟨by simp only [Sem.run_bind, hr, Result.andThen_ok, Sem.run_pure], rfl⟩, h5.trans this.1, this.2, fun n _ _ => by rw [h6]⟩
   ·rename_i hg
    rw [hg] at hr h9
    simp only at h9 hr
    simp only [Option.some.injEq] at he
    subst he
    have hnew : ∀ (q : Nat) (p : List Int × LV), (es ++ [(ks, (s.take T.LP v).1)])[q]? = some p → (q = es.length ∧ p = (ks, (s.take T.LP v).1)) ∨ (q < es.length ∧ es[q]? = some p) := fun q p hq => by
     by_cases hql : q < es.length
     ·rw [List.getElem?_append_left hql] at hq; exact .inr ⟨hql, hq⟩
     ·have := (List.getElem?_eq_some_iff.1 hq).1
      simp only [List.length_append, List.length_singleton] at this
      obtain rfl : q = es.length := by omega
      simp at hq
      exact .inl ⟨rfl, hq.symm⟩
    have := h2.setMap hes (es1' := es'.push { key := (⟨ts, df⟩ : Act).eval ko, val := (⟨ts, df⟩ : Act).eval vo, born := es'.size }) (es1 := es ++ [(ks, (s.take T.LP v).1)]) (by simp [hn])
     (fun q hq => by
      rw [Jt]
      by_cases hc : q = es'.size
      ·rw [if_pos hc]; exact hc.symm
      ·rw [if_neg hc]; exact hborn q (by simp only [Array.size_push] at hq; omega)) (fun q p hq => by
      rw [Jt]
      rcases hnew q p hq with ⟨rfl, rfl⟩ | ⟨hl, hq⟩
      ·rw [if_pos hn.symm]; exact hkv
      ·rw [if_neg (by omega)]; exact hkk q p hq) (fun q p hq => by
      rw [Jt]
      rcases hnew q p hq with ⟨rfl, rfl⟩ | ⟨hl, hq⟩
      ·rw [if_pos hn.symm]; exact ⟨h1, h9⟩
      ·rw [if_neg (by omega)]; exact hrr q p hq) (b := b) (by rw [h6]; exact hgb)
    rw [Array.size_push] at this
    exact ⟨g1, _, Go.undef, .inr ⟨by simp only [Sem.run_bind, hr, Result.andThen_ok, Sem.run_pure], rfl⟩, h5.trans this.1, this.2, fun n _ _ => by rw [h6]⟩
  ·simp at he
 ·simp at he
end
end Go.Lf
