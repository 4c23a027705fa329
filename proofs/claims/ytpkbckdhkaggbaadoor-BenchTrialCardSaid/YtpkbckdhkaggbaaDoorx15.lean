/- A part of the proof. -/
import Derived.Test.YtpkbckdhkaggbaaDoorx14
import Derived.Laws.Tables
import Derived.Great.BuildSlice
import Derived.Room.AppendUpon
set_option linter.all false
namespace Go.Lf
open Go
theorem ag : ∀ (vs : List Value) (n off : Nat) (cells : Array Value),
  (vs.zipIdx n).foldl (fun cs p => cs.setIfInBounds (off + p.2) p.1) cells = Kw cells (off + n) vs
 | [], _, _, _ => rfl
 | v :: r, n, off, cells => by
  simp only [List.zipIdx_cons, List.foldl_cons, Kw]
  rw [ag r (n + 1) off]
  rfl
theorem jB (vs : Array Value) (off : Nat) (cells : Array Value) :
  vs.zipIdx.foldl (fun cs (c, j) => cs.setIfInBounds (off + j) c) cells = Kw cells off vs.toList := by
 have := ag vs.toList 0 off cells
 rw [Nat.add_zero] at this
 rw [← this, ← Array.foldl_toList]
 simp
section
variable {T : Tables} {g : Gh} {w : World} {tss : List (Array Value)} {s s' : St} {ts : Array Value} {dst : Option Nat} {gi : Nat} {df : List Deferred} {C : AP}
theorem Yy (h : AS T g w tss s ts) (place : Nat → Option (Nat × Nat)) : ∀ (ps : List (Nat × Operand)) (qs : List (Nat × Nat × vD)), IW place ps = some qs →
  ∀ (cells : Array Value) (cs cs' : List LV), cells.size = cs.length → (∀ i c, cs[i]? = some c → Bj g (cells.getD i Go.undef) c) → (∀ c, c ∈ cs → c.isHot = false) →
   CJ (qs.map fun p => (p.1, p.2.1, s.val T.LP p.2.2)) cs = some cs' →
   ∃ cells', Instr.fill place cells (ps.map fun p => (p.1, (⟨ts, df⟩ : Act).eval p.2)) = some cells' ∧ cells'.size = cs'.length ∧
    (∀ i c, cs'[i]? = some c → Bj g (cells'.getD i Go.undef) c) ∧ (∀ c, c ∈ cs' → c.isHot = false) ∧ cs'.length = cs.length
 | [], qs, hq, cells, cs, cs', hn, hr, hh, hf => by
  simp only [IW, Option.some.injEq] at hq
  subst hq
  simp only [List.map_nil, CJ, Option.some.injEq] at hf
  subst hf
  exact ⟨cells, rfl, hn, hr, hh, rfl⟩
 | (i, x) :: r, qs, hq, cells, cs, cs', hn, hr, hh, hf => by
  simp only [IW] at hq
  split at hq
  ·rename_i off n y l hp hx hl
   simp only [Option.some.injEq] at hq
   subst hq
   simp only [List.map_cons, CJ] at hf
   split at hf
   ·rename_i xs hxs
    split at hf
    ·rename_i hc
     have hX := h.val (df := df) hx
     obtain ⟨k1, k2⟩ := hX.known hxs
     have hhot := Uc hxs (Dm (Gi _ _ _)) ⟨_, hX⟩
     have hsz : ((⟨ts, df⟩ : Act).eval x).cells.toList.length = xs.length := by simpa using k1
     obtain ⟨cells', e1, e2, e3, e4, e5⟩ := Yy h place r l hl (Kw cells off ((⟨ts, df⟩ : Act).eval x).cells.toList) (setCells cs off xs) cs'
      (by rw [JM, IE _ _ _ (by omega), hn]) (fun i c hc => by
       rw [MV _ _ _ _ (by omega)]
       rw [Iy _ _ _ (by omega)] at hc
       by_cases hin : off ≤ i ∧ i < off + xs.length
       ·rw [if_pos hin] at hc
        rw [if_pos (by omega), OA]
        exact k2 _ c hc
       ·rw [if_neg hin] at hc
        rw [if_neg (by omega)]
        exact hr i c hc) (fun c hc => by
       obtain ⟨i, hi, hic⟩ := List.getElem_of_mem hc
       have hic' : (setCells cs off xs)[i]? = some c := by rw [List.getElem?_eq_getElem hi, hic]
       rw [Iy _ _ _ (by omega)] at hic'
       split at hic'
       ·exact hhot c (List.mem_of_getElem? hic')
       ·exact hh c (List.mem_of_getElem? hic')) hf
     refine ⟨cells', ?_, e2, e3, e4, by rw [e5, IE _ _ _ (by omega)]⟩
     simp only [List.map_cons, Instr.fill, hp]
     rw [if_neg (by simp only [Bool.or_eq_true, decide_eq_true_eq, not_or]; constructor <;> omega)]
     rw [jB]
     exact e1
    ·simp at hf
   ·simp at hf
  ·simp at hq
theorem Y8 {P : Program} {t : TypeId} {zs : List DV} (h : zeroCells P t = some zs) :
  ∃ i v, P.info? t = some i ∧ i.zero = some v ∧ v.cells.size = zs.length ∧ (∀ im fm (n : Nat) (c : DV), zs[n]? = some c → Cf im fm (v.cells.getD n Go.undef) c) := by
 obtain ⟨k, i, v, hk, hi, hv, hl, hn, hok, hr⟩ := G0 h
 exact ⟨i, v, hi, hv, hn, hr⟩
theorem YN (ps : Array (Nat × Operand)) (ρ : Operand → Value) : (ps.map fun (i, x) => (i, ρ x)).toList = ps.toList.map fun p => (p.1, ρ p.2) := by simp
theorem TP {P : Program} : ∀ (fs : List Field), fs.all (fun f => (P.info? f.type).isSome) = true →
  ∃ l, fs.mapM (fun f => (P.info? f.type).map fun i => (f.offset, i.size)) = some l ∧ ∀ (n : Nat), l[n]? = (fs[n]?).map fun f => (f.offset, P.cellsOf f.type)
 | [], _ => ⟨[], by simp, fun n => by simp⟩
 | f :: fs, h => by
  simp only [List.all_cons, Bool.and_eq_true] at h
  obtain ⟨l, hl, hg⟩ := TP fs h.2
  obtain ⟨i, hi⟩ := Option.isSome_iff_exists.1 h.1
  refine ⟨(f.offset, i.size) :: l, by simp [List.mapM_cons, hi, hl], fun n => ?_⟩
  cases n with
  | zero => simp [Program.cellsOf, hi]
  | succ n => simpa using hg n
theorem XC {p q : Nat → Option (Nat × Nat)} : ∀ (ps : List (Nat × Value)) (cells : Array Value), (∀ x, x ∈ ps → p x.1 = q x.1) → Instr.fill p cells ps = Instr.fill q cells ps
 | [], _, _ => rfl
 | (i, v) :: r, cells, h => by
  simp only [Instr.fill]
  rw [h (i, v) (by simp)]
  cases q i with
  | none => rfl
  | some x =>
   simp only
   split
   ·rfl
   ·exact XC r _ fun x hx => h x (by simp [hx])
theorem PN {place : Nat → Option (Nat × Nat)} : ∀ {ps : List (Nat × Operand)} {qs : List (Nat × Nat × vD)}, IW place ps = some qs → ∀ x, x ∈ ps → (place x.1).isSome
 | [], _, _, x, hx => by simp at hx
 | (i, y) :: r, qs, h, x, hx => by
  simp only [IW] at h
  split at h
  ·rename_i off n _ l hp _ hl
   cases hx with
   | head => simp [hp]
   | tail _ hx => exact PN hl x hx
  ·simp at h
theorem cj {t : TypeId} {d : TypeDesc} {zs : List DV} {place : Nat → Option (Nat × Nat)} {ps : Array (Nat × Operand)} {qs : List (Nat × Nat × vD)} {o : Oper}
  (h : AS T g w tss s ts) (hd : ∀ d, dst = some d → d < ts.size) (hz : zeroCells T.P t = some zs) (hu : T.P.underlying t = some d)
  (hpl : (∃ fs, d = .struct fs ∧ place = XX T.P fs ∧ fs.toList.all (fun f => (T.P.info? f.type).isSome) = true) ∨
   (∃ n e k, d = .array n e ∧ C6 T.P e = some k ∧ place = fun i => some (i * Bf k, Bf k)))
  (hq : IW place ps.toList = some qs) (ho : o.op = .build t ps)
  (he : evalOp T.LP C gi dst (.build zs qs) s = some s') : BS T g w tss s s' ts dst gi ((execOp (⟨ts, df⟩ : Act).eval o).run T.P w) := by
 simp only [evalOp] at he
 split at he
 ·rename_i cs' hcs'
  obtain ⟨i, v, hi, hv, hn, hr⟩ := Y8 hz
  obtain ⟨cells', e1, e2, e3, e4, e5⟩ := Yy (df := df) h place ps.toList qs hq v.cells (zs.map .d) cs' (by simpa using hn) (fun n c hc => by
   simp only [List.getElem?_map, Option.map_eq_some_iff] at hc
   obtain ⟨z, hz, rfl⟩ := hc
   exact .d (hr _ _ n z hz)) (fun c hc => by
   simp only [List.mem_map] at hc
   obtain ⟨z, _, rfl⟩ := hc; rfl) hcs'
  have hb : T.P.built t ((ps.map fun (i, x) => (i, (⟨ts, df⟩ : Act).eval x)).toList) = some cells' := by
   rw [YN]
   unfold Program.built
   rcases hpl with ⟨fs, rfl, rfl, hall⟩ | ⟨n, e, k, rfl, hk, rfl⟩
   ·obtain ⟨l, hl, hg⟩ := TP fs.toList hall
    simp only [hi, hu, hv, hl]
    rw [← e1]
    apply XC
    intro x hx
    simp only [List.mem_map] at hx
    obtain ⟨y, hy, rfl⟩ := hx
    have hsome := PN hq y hy
    simp only [List.getElem?_toArray, hg]
    unfold XX at hsome ⊢
    cases hf : fs[y.1]? with
    | none => simp [hf] at hsome
    | some f =>
     simp only [hf] at hsome ⊢
     cases hk : C6 T.P f.type with
     | none => simp [hk] at hsome
     | some k =>
      obtain ⟨_, ie, _, hie, hse, _⟩ := Cb hk
      simp [hf, Program.cellsOf, hie, hse]
   ·obtain ⟨_, ie, _, hie, hse, _⟩ := Cb hk
    simp only [hi, hu, hv, hie, hse]
    exact e1
  have hrun := run_build (P := T.P) w t (ps.map fun (i, x) => (i, (⟨ts, df⟩ : Act).eval x)) cells' hb
  refine A6 h hd (v := .agg cells') ?_ he (Bj.norm (.agg cells' cs' e2 e4 e3)) (C2 rfl)
  simp only [execOp, ho, Sem.run_bind, hrun, Result.andThen_ok, Sem.run_pure]
 ·simp at he
theorem AS.setV (h : AS T g w tss s ts) {g' : Gh} {t : Nat} {x0 x : LV} (hs : s.env.get t = some (.v x0)) (hw : IU T g' w s.ctr) (hl : g.Le g')
  (hk : ∀ b p, g.ow b = some p → (∀ i, p ≠ .slot s.low.length t i) → NG g w g' w b) (hr : Dz g' w s.low.length t (ts.getD t Go.undef) (.v x)) :
  AS T g' w tss { s with env := s.env.set t (.v x) } ts := by
 have := h.setAt (j := s.low.length) (t := t) (sl0 := .v x0) (sl := .v x) (by simp [St.at, hs]) hw hl hk (by simpa [mb] using hr)
 simpa [St.setAt] using this
theorem eB {i : Nat} {take : Bool} {xo : Operand} {x : vD} {o : Oper} (h : AS T g w tss s ts) (hd : ∀ d, dst = some d → d < ts.size)
  (hx : Aq xo = some x) (ho : o.op = .extract xo i) (he : evalOp T.LP C gi dst (.extract i x take) s = some s') :
  BS T g w tss s s' ts dst gi ((execOp (⟨ts, df⟩ : Act).eval o).run T.P w) := by
 simp only [evalOp] at he
 split at he
 ·rename_i t
  have hxo : (⟨ts, df⟩ : Act).eval xo = ts.getD t Go.undef := by
   cases xo <;> simp only [Aq, Option.some.injEq, Option.map_eq_some_iff, reduceCtorEq, and_false, exists_false, vD.tmp.injEq] at hx
   subst hx; rfl
  have hrun : ∀ vs : Array Value, ts.getD t Go.undef = .tuple vs → i < vs.size → (execOp (⟨ts, df⟩ : Act).eval o).run T.P w = .ok (.value (vs.getD i Go.undef)) w := by
   intro vs hvs hi
   have hg : vs[i]? = some (vs.getD i Go.undef) := by simp [Array.getD, hi]
   simp only [execOp, ho, hxo, Instr.extract, hvs, hg, Sem.run_bind, Sem.run_pure, Result.andThen_ok]
  split at he
  ·rename_i cs hcs
   have hr := (h.env t _ hcs).v_inv.1.dinv
   generalize hval : ts.getD t Go.undef = v at hr hrun
   cases hr with
   | tup vs _ hn hrep =>
    split at he
    ·rename_i y hy
     exact A6 h hd (hrun vs rfl (by rw [hn]; exact (List.getElem?_eq_some_iff.1 hy).1)) he (.d (hrep i y hy)) rfl
    ·simp at he
  ·rename_i cs hcs
   obtain ⟨hr, hown⟩ := (h.env t _ hcs).v_inv
   have hslot := h.env t _ hcs
   generalize hval : ts.getD t Go.undef = v at hr hrun hown hslot
   cases hr with
   | tup vs _ hn hrep =>
    split at he
    ·rename_i z xs hy
     obtain ⟨vs', hvs', hownc⟩ := hown
     simp only [Value.tuple.injEq] at hvs'
     subst hvs'
     obtain ⟨b, o2, cap, hv, hb, hi2, cells, e2, hh2, hcap⟩ := hownc i _ hy
     have hlt : i < vs.size := by rw [hn]; exact (List.getElem?_eq_some_iff.1 hy).1
     have hl := g.own_le b (.slot s.low.length (dst.getD 0) 0)
     have hinv := h.setV (g' := g.own b (.slot s.low.length (dst.getD 0) 0)) (x := .tup (cs.set i (.d (.slice z xs)))) hcs (h.winv.own (h.winv.ow _ _ hb)) hl (fun c q hcq hq => Hv g w b _ c fun e => by
       subst e; rw [hb] at hcq; simp only [Option.some.injEq] at hcq; exact hq _ hcq.symm) (by
      rw [hval]
      refine .v (.tup vs _ (by simpa using hn) fun n c hc => ?_) ⟨vs, rfl, fun n c hc => ?_⟩
      ·rw [J5] at hc
       split at hc
       ·rename_i hin; obtain ⟨rfl, _⟩ := hin
        simp only [Option.some.injEq] at hc; subst hc
        exact ((hrep i _ hy).mono hl).cool
       ·split at hc
        ·simp at hc
        ·exact (hrep n c hc).mono hl
      ·rw [J5] at hc
       split at hc
       ·simp only [Option.some.injEq] at hc; subst hc; trivial
       ·split at hc
        ·simp at hc
        ·rename_i hne1 hne
         refine (hownc n c hc).keep fun b' hb' => Hv g w b _ b' fun e => ?_
         subst e
         rw [hb] at hb'
         simp only [Option.some.injEq, DX.slot.injEq] at hb'
         omega)
     refine ⟨_, w, vs.getD i Go.undef, .inl (hrun vs rfl hlt), Oy hb, hinv.put he hd ((hrep i _ hy).mono hl) fun d hdd => ?_, fun n _ _ => rfl⟩
     subst hdd
     exact ⟨b, o2, cap, hv, by simp [Gh.own], hi2, cells, e2, hh2, hcap⟩
    ·rename_i y _ hy
     exact A6 h hd (hrun vs rfl (by rw [hn]; exact (List.getElem?_eq_some_iff.1 hy).1)) he (hrep i y hy).copy (HH _)
    ·simp at he
  ·simp at he
 ·simp at he
end
end Go.Lf
namespace Go.Lf
open Go
def Gh.know (g : Gh) (b lo n : Nat) (us : Nat → Value) : Gh := { g with im := fun c i => if c = b ∧ lo ≤ i ∧ i < lo + n then some (us i) else g.im c i }
theorem H4 (g : Gh) {b lo n i : Nat} {us : Nat → Value} (h : lo ≤ i ∧ i < lo + n) : (g.know b lo n us).im b i = some (us i) := by
 simp [Gh.know, h.1, h.2]
theorem Cc (g : Gh) {b c lo n i : Nat} {us : Nat → Value} (h : c ≠ b ∨ i < lo ∨ lo + n ≤ i) : (g.know b lo n us).im c i = g.im c i := by
 simp only [Gh.know]
 rw [if_neg (by omega)]
theorem Xl (g : Gh) {b lo n : Nat} {us : Nat → Value} (h : ∀ i, lo ≤ i → i < lo + n → g.im b i = none) : g.Le (g.know b lo n us) :=
 ⟨fun c i u hu => by
  simp only [Gh.know]
  split
  ·rename_i hc
   obtain ⟨rfl, h1, h2⟩ := hc
   rw [h i h1 h2] at hu; simp at hu
  ·exact hu, fun _ _ h => h, fun _ _ h => h, fun _ _ h => h⟩
theorem rf (g : Gh) (w : World) {b c lo n : Nat} {us : Nat → Value} (h : c ≠ b) : NG g w (g.know b lo n us) w c :=
 ⟨rfl, fun _ => Cc g (.inl h), rfl, rfl⟩
theorem MX {z : Nat} : ∀ {xs : List DV}, (∀ x, x ∈ xs → x.cells.length = z) → ∀ {j : Nat} {c : DV}, (xs.flatMap DV.cells)[j]? = some c →
  ∃ i r e, j = i * z + r ∧ r < z ∧ xs[i]? = some e ∧ e.cells[r]? = some c
 | [], _, j, c, h => by simp at h
 | x :: l, h, j, c, hc => by
  have hx := h x (by simp)
  simp only [List.flatMap_cons] at hc
  by_cases hj : j < z
  ·rw [List.getElem?_append_left (by omega)] at hc
   exact ⟨0, j, x, by omega, hj, rfl, hc⟩
  ·rw [List.getElem?_append_right (by omega), hx] at hc
   obtain ⟨i, r, e, h1, h2, h3, h4⟩ := MX (xs := l) (fun y hy => h y (by simp [hy])) hc
   exact ⟨i + 1, r, e, by rw [Nat.add_mul]; omega, h2, h3, h4⟩
theorem UN {k : Option Nat} {off : Nat} {ds : List DV} {e : DV} (h : Ax k off ds = some e) (hd : ∀ d, d ∈ ds → d.cells = [d]) :
  e.cells.length = Bf k ∧ ∀ r, r < Bf k → e.cells[r]? = ds[off + r]? := by
 cases k with
 | none =>
  simp only [Ax] at h
  have := hd e (List.mem_of_getElem? h)
  rw [this]
  refine ⟨rfl, fun r hr => ?_⟩
  simp only [Bf, Option.getD_none] at hr
  obtain rfl : r = 0 := by omega
  simp [h]
 | some n =>
  simp only [Ax] at h
  split at h
  ·rename_i hl
   simp only [Option.some.injEq] at h
   subst h
   refine ⟨hl, fun r hr => ?_⟩
   simp only [Bf, Option.getD_some] at hr
   simp only [DV.cells]
   rw [List.getElem?_take, if_pos hr, List.getElem?_drop]
  ·simp at h
theorem J6 {α β : Type} {f : α → Option β} : ∀ {l : List α} {r : List β}, l.mapM f = some r → r.length = l.length ∧ ∀ (i : Nat) (b : β), r[i]? = some b → ∃ a, l[i]? = some a ∧ f a = some b
 | [], r, h => by simp at h; subst h; exact ⟨rfl, fun i b hb => by simp at hb⟩
 | a :: l, r, h => by
  simp only [List.mapM_cons] at h
  cases ha : f a with
  | none => simp [ha] at h
  | some b =>
   cases hl : l.mapM f with
   | none => simp [ha, hl] at h
   | some bs =>
    simp [ha, hl] at h
    subst h
    obtain ⟨h1, h2⟩ := J6 hl
    refine ⟨by simp [h1], fun i c hc => ?_⟩
    cases i with
    | zero => simp only [List.getElem?_cons_zero, Option.some.injEq] at hc; subst hc; exact ⟨a, rfl, ha⟩
    | succ i => simpa using h2 i c (by simpa using hc)
theorem NT {α : Type} (zs : List α) : ∀ (n i : Nat), (List.replicate n zs).flatten[i]? = if i < n * zs.length then zs[i % zs.length]? else none
 | 0, i => by simp
 | n + 1, i => by
  simp only [List.replicate_succ, List.flatten_cons]
  by_cases h : i < zs.length
  ·rw [List.getElem?_append_left h, if_pos (by rw [Nat.add_mul]; omega), Nat.mod_eq_of_lt h]
  ·rw [List.getElem?_append_right (by omega), NT zs n]
   have : i % zs.length = (i - zs.length) % zs.length := by
    conv => lhs; rw [show i = i - zs.length + zs.length by omega]
    simp
   rw [this]
   by_cases h2 : i - zs.length < n * zs.length
   ·rw [if_pos h2, if_pos (by rw [Nat.add_mul]; omega)]
   ·rw [if_neg h2, if_neg (by rw [Nat.add_mul]; omega)]
section
variable {T : Tables} {g : Gh} {w : World} {tss : List (Array Value)} {s s' : St} {ts : Array Value} {dst : Option Nat} {gi : Nat} {df : List Deferred} {C : AP}
theorem VN {P : Program} (w : World) (t e : TypeId) (parts : Array (Nat × Value)) (cells : Array Value) (ie : TypeInfo)
  (hu : P.underlying t = some (.slice e)) (hie : P.info? e = some ie) (h : Instr.fill (fun i => some (i * ie.size, ie.size)) #[] parts.toList = some cells) :
  (Instr.buildSlice t 0 parts).run P w = .ok (.slice (some ⟨w.heap.size, 0, none⟩) 0 0) (w.alloc (.cells cells e)) := by
 have e0 : Array.map (fun _ => (default : Value)) (Array.range 0) = #[] := Array.eq_empty_of_size_eq_zero (by simp)
 simp [Instr.buildSlice, AW hu, sizeOf, typeInfo, hie, newRow, e0, h]
theorem Nr (h : AS T g w tss s ts) (hd : ∀ d, dst = some d → d < ts.size) {w0 : World} (hw0 : w0.heap = w.heap) (ho0 : w0.os = w.os) (ht0 : w0.tape = w.tape) (hp0 : w0.output = w.output)
  {z cap : Nat} {xs : List DV} {cells : Array Value} {e : TypeId} (hlen : xs.length ≤ cap) (hz : ∀ x, x ∈ xs → x.cells.length = z) (hsz : cap * z ≤ cells.size)
  (hr : ∀ (i : Nat) (c : DV), (xs.flatMap DV.cells)[i]? = some c → Cf g.im g.fm (cells.getD i Go.undef) c)
  (hone : ∀ i, i < xs.length * z → (cells.getD i Go.undef).oneCell' = true)
  {r : Result Next} (hrun : r = .ok (.value (.slice (some ⟨w.heap.size, 0, none⟩) xs.length cap)) (World.push w0 (.cells cells e)))
  (hp : s.put dst (.hot z xs) = some s') : BS T g w tss s s' ts dst gi r := by
 have hin0 : AS T g w0 tss s ts := by
  refine h.move (g' := g) (w' := w0) ⟨fun b i u hu => ?_, h.winv.one, fun b es hf => ?_, fun b p hb => ?_, fun n b hb => ?_, fun b d hb => ?_, h.winv.ctr, h.winv.globs⟩ (.refl g) (fun b p _ => ⟨by rw [hw0], fun _ => rfl, rfl, rfl⟩)
  ·rw [← h.winv.im b i u hu]; exact EQ (by rw [hw0])
  ·rw [hw0]; exact h.winv.fm b es hf
  ·rw [hw0]; exact h.winv.ow b p hb
  ·rw [hw0]; exact h.winv.gb n b hb
  ·rw [hw0]; exact h.winv.lp b d hb
 have hb : w0.heap.size = w.heap.size := by rw [hw0]
 let p : DX := .slot s.low.length (dst.getD 0) 0
 have hf := hin0.fresh (.cells cells e) p (gn := none) (fun n e => by simp at e)
 rw [hb] at hf
 have hnone : ∀ i, g.im w.heap.size i = none := fun i => h.winv.im_fresh (Nat.le_refl _) i
 let g2 := (g.fresh w.heap.size p none).know w.heap.size 0 (xs.length * z) fun i => cells.getD i Go.undef
 have hle2 : (g.fresh w.heap.size p none).Le g2 := Xl _ fun i _ _ => hnone i
 have hle1 : g.Le (g.fresh w.heap.size p none) := S3 fun n e => by simp at e
 have hle : g.Le g2 := hle1.trans hle2
 have hxz : xs.length * z ≤ cap * z := Nat.mul_le_mul_right z hlen
 have hnew : (World.push w0 (.cells cells e)).heap[w.heap.size]? = some (.cells cells e (0, 0)) := by rw [← hb]; exact KD
 have hinv : AS T g2 (World.push w0 (.cells cells e)) tss s ts := by
  have hW : IU T g2 (World.push w0 (.cells cells e)) s.ctr := by
   refine ⟨fun b i u hu => ?_, fun b i u hu => ?_, hf.winv.fm, hf.winv.ow, hf.winv.gb, hf.winv.lp, hf.winv.ctr, fun n => (hf.winv.globs n).mono hle2.im hle2.fm⟩
   by_cases hc : b = w.heap.size ∧ 0 ≤ i ∧ i < 0 + xs.length * z
   ·obtain ⟨rfl, h1, h2⟩ := hc
    rw [H4 _ ⟨h1, h2⟩] at hu
    simp only [Option.some.injEq] at hu
    subst hu
    exact Da hnew (by omega)
   ·have : g2.im b i = (g.fresh w.heap.size p none).im b i := Cc _ (by omega)
    rw [this] at hu
    exact hf.winv.im b i u hu
   by_cases hc : b = w.heap.size ∧ 0 ≤ i ∧ i < 0 + xs.length * z
   ·obtain ⟨rfl, h1, h2⟩ := hc
    rw [H4 _ ⟨h1, h2⟩] at hu
    simp only [Option.some.injEq] at hu
    subst hu
    exact hone i (by omega)
   ·have : g2.im b i = (g.fresh w.heap.size p none).im b i := Cc _ (by omega)
    rw [this] at hu
    exact hf.winv.one b i u hu
  refine h.move hW hle fun b q hbq => ?_
  have hlt := h.winv.ow b q hbq
  have hu := Qb (g := g) (w := w0) (o := .cells cells e) (p := p) (gn := none) (b := b) (by omega)
  rw [hb] at hu
  refine ⟨by rw [hu.heap, hw0], fun i => ?_, rfl, by simp only [g2, Gh.know]; exact hu.ow⟩
  rw [Cc _ (.inl (by omega))]; rfl
 have hrep : Cf g2.im g2.fm (.slice (some ⟨w.heap.size, 0, none⟩) xs.length cap) (.slice z xs) :=
  .slice _ 0 cap z xs (fun i => cells.getD i Go.undef) hlen hz (fun i hi => by rw [Nat.zero_add]; exact H4 _ ⟨by omega, by omega⟩) fun i c hc => (hr i c hc).mono hle.im hle.fm
 refine ⟨g2, World.push w0 (.cells cells e), _, .inl hrun, ⟨hle, fun b hb' hbo => ?_, by rw [EG, hb]; omega, by rw [← ho0]; rfl, by rw [← ht0]; rfl, by rw [← hp0]; rfl, fun b => by rw [VO rfl]; unfold QL; rw [hw0]⟩, hinv.put hp hd (.hot hrep) fun d hdd => ?_, fun n _ _ => rfl⟩
 ·refine ⟨by rw [G2 (by omega), hw0], fun i => ?_, rfl, ?_⟩
  ·rw [Cc _ (.inl (by omega))]; rfl
  ·show (g.fresh w.heap.size p none).ow b = g.ow b
   simp only [Gh.fresh]; rw [if_neg (by omega)]
 ·subst hdd
  refine ⟨w.heap.size, 0, cap, rfl, ?_, fun i hi => ?_, cells, e, hnew, by omega⟩
  ·show (g.fresh w.heap.size p none).ow _ = _
   simp [Gh.fresh, p]
  ·rw [Cc _ (by omega)]; exact hnone i
theorem qF {t e : TypeId} {k : Option Nat} {len : Nat} {zs : List DV} {ps : Array (Nat × Operand)} {qs : List (Nat × Nat × vD)} {o : Oper}
  (h : AS T g w tss s ts) (hd : ∀ d, dst = some d → d < ts.size) (hu : T.P.underlying t = some (.slice e)) (hz : zeroCells T.P e = some zs) (hk : C6 T.P e = some k)
  (hn0 : Bf k ≠ 0) (hsmall : ¬ len * Bf k > 2 ^ 24)
  (hq : IW (fun i => some (i * Bf k, Bf k)) ps.toList = some qs) (ho : o.op = .buildSlice t len ps)
  (he : evalOp T.LP C gi dst (.lit k zs len qs) s = some s') : BS T g w tss s s' ts dst gi ((execOp (⟨ts, df⟩ : Act).eval o).run T.P w) := by
 simp only [evalOp] at he
 split at he
 ·rename_i cs' hcs'
  split at he
  ·rename_i hok
   split at he
   ·rename_i ds hds
    split at he
    ·rename_i xs hxs
     obtain ⟨k', i, v, hk', hi, hv, hl, hn, _, hr⟩ := G0 hz
     rw [hk] at hk'
     simp only [Option.some.injEq] at hk'
     subst hk'
     obtain ⟨_, i', _, hi', hsi, _⟩ := Cb hk
     rw [hi] at hi'
     simp only [Option.some.injEq] at hi'
     subst hi'
     have hvs : v.cells.size = Bf k := by rw [hn, hl]
     obtain ⟨cells', e1, e2, e3, e4, e5⟩ := Yy (df := df) h (fun i => some (i * Bf k, Bf k)) ps.toList qs hq ((Array.range (len * Bf k)).map (v.cells[· % v.cells.size]!)) _ cs'
      (by simp [hl, List.sum_replicate_nat]) (fun n c hc => by
      simp only [List.getElem?_map, Option.map_eq_some_iff] at hc
      obtain ⟨y, hy, rfl⟩ := hc
      rw [NT] at hy
      split at hy
      ·rename_i hlt
       rw [hl] at hlt hy
       have := hr g.im g.fm _ _ hy
       refine .d ?_
       rw [Array.getD, dif_pos (by simpa using hlt)]
       simp only [Array.getInternal_eq_getElem, Array.getElem_map, Array.getElem_range, hvs]
       have hlt2 : n % Bf k < v.cells.size := by rw [hvs]; exact Nat.mod_lt _ (by omega)
       rw [getElem!_pos v.cells _ hlt2]
       simpa [Array.getD, hlt2] using this
      ·simp at hy) (fun c hc => by
      simp only [List.mem_map] at hc
      obtain ⟨y, _, rfl⟩ := hc; rfl) hcs'
     obtain ⟨hdl, hdg⟩ := Hl hds
     have hone : ∀ d, d ∈ ds → d.cells = [d] := fun d hd' => by
      obtain ⟨j, hj, hjd⟩ := List.getElem_of_mem hd'
      obtain ⟨c, hc, hcd⟩ := HF hds (d := d) (i := j) (by rw [List.getElem?_eq_getElem hj, hjd])
      simp only [List.all_eq_true] at hok
      have := hok c (List.mem_of_getElem? hc)
      cases c with
      | d y => simp only [LV.toD, Option.some.injEq] at hcd; subst hcd; cases y <;> first | rfl | simp [LV.cellOk] at this
      | agg => simp [LV.cellOk] at this
      | tup => simp [LV.cellOk] at this
      | hot => simp only [LV.toD, Option.some.injEq] at hcd; subst hcd; rfl
      | full => simp only [LV.toD, Option.some.injEq] at hcd; subst hcd; rfl
      | ptr => simp [LV.toD] at hcd
      | mref => simp [LV.toD] at hcd
      | yield => simp [LV.toD] at hcd
      | fptr => simp only [LV.toD, Option.map_eq_some_iff] at hcd; obtain ⟨_, _, rfl⟩ := hcd; rfl
      | fn =>
       simp only [LV.toD] at hcd
       split at hcd
       ·simp only [Option.some.injEq] at hcd; subst hcd; rfl
       ·simp at hcd
     obtain ⟨hxl, hxg⟩ := J6 hxs
     have hxlen : xs.length = len := by simpa using hxl
     have hxi : ∀ (i : Nat) (x : DV), xs[i]? = some x → Ax k (i * Bf k) ds = some x := fun i x hx => by
      obtain ⟨a, ha, hf⟩ := hxg i x hx
      rw [List.getElem?_range (by have := (List.getElem?_eq_some_iff.1 hx).1; omega)] at ha
      simp only [Option.some.injEq] at ha
      subst ha; exact hf
     have hxz : ∀ x, x ∈ xs → x.cells.length = Bf k := fun x hx => by
      obtain ⟨j, hj, hjx⟩ := List.getElem_of_mem hx
      exact (UN (hxi j x (by rw [List.getElem?_eq_getElem hj, hjx])) hone).1
     have hcs : cs'.length = len * Bf k := by rw [e5]; simp [hl, List.sum_replicate_nat]
     have hrun := run_buildSlice (P := T.P) w t e len (ps.map fun (i, x) => (i, (⟨ts, df⟩ : Act).eval x)) cells' i v hu hi hv (by rw [hsi]; exact hsmall)
     by_cases hlen0 : len * i.size = 0
     ·have hl0 : len = 0 := by
       rcases Nat.mul_eq_zero.1 hlen0 with h | h
       ·exact h
       ·rw [hsi] at h; exact absurd h hn0
      subst hl0
      refine Nr h hd (w0 := w) rfl rfl rfl rfl (cap := 0) (cells := cells') (e := e) (by omega) hxz (by omega) (fun i c hc => ?_) (fun i hi => by simp [hxlen] at hi) ?_ he
      ·have : xs = [] := List.length_eq_zero_iff.1 hxlen
       subst this; simp at hc
      ·have e0 : (Array.range (0 * Bf k)).map (v.cells[· % v.cells.size]!) = #[] := Array.eq_empty_of_size_eq_zero (by simp)
       rw [e0] at e1
       have hrun0 := VN (P := T.P) w t e (ps.map fun (i, x) => (i, (⟨ts, df⟩ : Act).eval x)) cells' i hu hi (by rw [YN, hsi]; exact e1)
       simp only [execOp, ho, Sem.run_bind, hrun0, Result.andThen_ok, Sem.run_pure, hxlen]
       rfl
     ·have hrun' := hrun hlen0 (by rw [YN, hsi]; exact e1)
      refine Nr h hd (w0 := w) rfl rfl rfl rfl (cap := len) (cells := cells') (e := e) (by omega) hxz (by omega) (fun j c hc => ?_) (fun j hj => by
       have hjc : j < cs'.length := by rw [hcs, ← hxlen]; exact hj
       have hj2 : cs'[j]? = some cs'[j] := List.getElem?_eq_getElem hjc
       simp only [List.all_eq_true] at hok
       exact Ql (e3 j _ hj2) (hok _ (List.mem_of_getElem? hj2))) (by simp only [execOp, ho, Sem.run_bind, hrun', Result.andThen_ok, Sem.run_pure, hxlen]; rfl) he
      obtain ⟨a, r, x, rfl, hr', hx, hxc⟩ := MX hxz hc
      have hp := hxi a x hx
      rw [(UN hp hone).2 r hr'] at hxc
      obtain ⟨y, hy, hyd⟩ := HF hds hxc
      exact (e3 _ y hy).toD hyd
    ·simp at he
   ·simp at he
  ·simp at he
 ·simp at he
end
end Go.Lf
