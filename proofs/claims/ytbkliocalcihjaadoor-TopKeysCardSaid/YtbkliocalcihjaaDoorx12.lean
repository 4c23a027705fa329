/- A part of the proof. -/
import Derived.Test.YtbkliocalcihjaaDoorx11
import Derived.Laws.Tables
import Derived.Great.BuildSlice
import Derived.Room.AppendUpon
set_option linter.all false
namespace Go.Lf
open Go
theorem fC : ∀ (vs : List Value) (n off : Nat) (cells : Array Value),
  (vs.zipIdx n).foldl (fun cs p => cs.setIfInBounds (off + p.2) p.1) cells = KR cells (off + n) vs
 | [], _, _, _ => rfl
 | v :: r, n, off, cells => by
  simp only [List.zipIdx_cons, List.foldl_cons, KR]
  rw [fC r (n + 1) off]
  rfl
theorem lG (vs : Array Value) (off : Nat) (cells : Array Value) :
  vs.zipIdx.foldl (fun cs (c, j) => cs.setIfInBounds (off + j) c) cells = KR cells off vs.toList := by
 have := fC vs.toList 0 off cells
 rw [Nat.add_zero] at this
 rw [← this, ← Array.foldl_toList]
 simp
section
variable {T : Tables} {g : Gh} {w : World} {tss : List (Array Value)} {s s' : St} {ts : Array Value} {dst : Option Nat} {gi : Nat} {df : List Deferred} {C : AM}
theorem bI (h : AV T g w tss s ts) (place : Nat → Option (Nat × Nat)) : ∀ (ps : List (Nat × Operand)) (qs : List (Nat × Nat × Opd)), I4 place ps = some qs →
  ∀ (cells : Array Value) (cs cs' : List LV), cells.size = cs.length → (∀ i c, cs[i]? = some c → Bm g (cells.getD i Go.undef) c) → (∀ c, c ∈ cs → c.isHot = false) →
   Br (qs.map fun p => (p.1, p.2.1, s.val T.LP p.2.2)) cs = some cs' →
   ∃ cells', Instr.fill place cells (ps.map fun p => (p.1, (⟨ts, df⟩ : Act).eval p.2)) = some cells' ∧ cells'.size = cs'.length ∧
    (∀ i c, cs'[i]? = some c → Bm g (cells'.getD i Go.undef) c) ∧ (∀ c, c ∈ cs' → c.isHot = false) ∧ cs'.length = cs.length
 | [], qs, hq, cells, cs, cs', hn, hr, hh, hf => by
  simp only [I4, Option.some.injEq] at hq
  subst hq
  simp only [List.map_nil, Br, Option.some.injEq] at hf
  subst hf
  exact ⟨cells, rfl, hn, hr, hh, rfl⟩
 | (i, x) :: r, qs, hq, cells, cs, cs', hn, hr, hh, hf => by
  simp only [I4] at hq
  split at hq
  ·rename_i off n y l hp hx hl
   simp only [Option.some.injEq] at hq
   subst hq
   simp only [List.map_cons, Br] at hf
   split at hf
   ·rename_i xs hxs
    split at hf
    ·rename_i hc
     have hX := h.val (df := df) hx
     obtain ⟨k1, k2⟩ := hX.known hxs
     have hhot := T0 hxs (Dt (HI _ _ _)) ⟨_, hX⟩
     have hsz : ((⟨ts, df⟩ : Act).eval x).cells.toList.length = xs.length := by simpa using k1
     obtain ⟨cells', e1, e2, e3, e4, e5⟩ := bI h place r l hl (KR cells off ((⟨ts, df⟩ : Act).eval x).cells.toList) (setCells cs off xs) cs'
      (by rw [J6, Iu _ _ _ (by omega), hn]) (fun i c hc => by
       rw [NL _ _ _ _ (by omega)]
       rw [JB _ _ _ (by omega)] at hc
       by_cases hin : off ≤ i ∧ i < off + xs.length
       ·rw [if_pos hin] at hc
        rw [if_pos (by omega), OK]
        exact k2 _ c hc
       ·rw [if_neg hin] at hc
        rw [if_neg (by omega)]
        exact hr i c hc) (fun c hc => by
       obtain ⟨i, hi, hic⟩ := List.getElem_of_mem hc
       have hic' : (setCells cs off xs)[i]? = some c := by rw [List.getElem?_eq_getElem hi, hic]
       rw [JB _ _ _ (by omega)] at hic'
       split at hic'
       ·exact hhot c (List.mem_of_getElem? hic')
       ·exact hh c (List.mem_of_getElem? hic')) hf
     refine ⟨cells', ?_, e2, e3, e4, by rw [e5, Iu _ _ _ (by omega)]⟩
     simp only [List.map_cons, Instr.fill, hp]
     rw [if_neg (by simp only [Bool.or_eq_true, decide_eq_true_eq, not_or]; constructor <;> omega)]
     rw [lG]
     exact e1
    ·simp at hf
   ·simp at hf
  ·simp at hq
theorem bJ {P : Program} {t : TypeId} {zs : List DV} (h : zeroCells P t = some zs) :
  ∃ i v, P.info? t = some i ∧ i.zero = some v ∧ v.cells.size = zs.length ∧ (∀ im fm (n : Nat) (c : DV), zs[n]? = some c → Cd im fm (v.cells.getD n Go.undef) c) := by
 obtain ⟨k, i, v, hk, hi, hv, hl, hn, hok, hr⟩ := HY h
 exact ⟨i, v, hi, hv, hn, hr⟩
theorem bG (ps : Array (Nat × Operand)) (ρ : Operand → Value) : (ps.map fun (i, x) => (i, ρ x)).toList = ps.toList.map fun p => (p.1, ρ p.2) := by simp
theorem VL {P : Program} : ∀ (fs : List Field), fs.all (fun f => (P.info? f.type).isSome) = true →
  ∃ l, fs.mapM (fun f => (P.info? f.type).map fun i => (f.offset, i.size)) = some l ∧ ∀ (n : Nat), l[n]? = (fs[n]?).map fun f => (f.offset, P.cellsOf f.type)
 | [], _ => ⟨[], by simp, fun n => by simp⟩
 | f :: fs, h => by
  simp only [List.all_cons, Bool.and_eq_true] at h
  obtain ⟨l, hl, hg⟩ := VL fs h.2
  obtain ⟨i, hi⟩ := Option.isSome_iff_exists.1 h.1
  refine ⟨(f.offset, i.size) :: l, by simp [List.mapM_cons, hi, hl], fun n => ?_⟩
  cases n with
  | zero => simp [Program.cellsOf, hi]
  | succ n => simpa using hg n
theorem Y2 {p q : Nat → Option (Nat × Nat)} : ∀ (ps : List (Nat × Value)) (cells : Array Value), (∀ x, x ∈ ps → p x.1 = q x.1) → Instr.fill p cells ps = Instr.fill q cells ps
 | [], _, _ => rfl
 | (i, v) :: r, cells, h => by
  simp only [Instr.fill]
  rw [h (i, v) (by simp)]
  cases q i with
  | none => rfl
  | some x =>
   simp only
   split
   ·rfl
   ·exact Y2 r _ fun x hx => h x (by simp [hx])
theorem O5 {place : Nat → Option (Nat × Nat)} : ∀ {ps : List (Nat × Operand)} {qs : List (Nat × Nat × Opd)}, I4 place ps = some qs → ∀ x, x ∈ ps → (place x.1).isSome
 | [], _, _, x, hx => by simp at hx
 | (i, y) :: r, qs, h, x, hx => by
  simp only [I4] at h
  split at h
  ·rename_i off n _ l hp _ hl
   cases hx with
   | head => simp [hp]
   | tail _ hx => exact O5 hl x hx
  ·simp at h
theorem d6 {t : TypeId} {d : TypeDesc} {zs : List DV} {place : Nat → Option (Nat × Nat)} {ps : Array (Nat × Operand)} {qs : List (Nat × Nat × Opd)} {o : Oper} {raw : Bool}
  (h : AV T g w tss s ts) (hd : ∀ d, dst = some d → d < ts.size) (hz : zeroCells T.P t = some zs) (hu : T.P.underlying t = some d)
  (hpl : (∃ fs, d = .struct fs ∧ place = Zd T.P fs ∧ fs.toList.all (fun f => (T.P.info? f.type).isSome) = true) ∨
   (∃ n e k, d = .array n e ∧ DC T.P e = some k ∧ place = fun i => some (i * Bl k, Bl k)))
  (hq : I4 place ps.toList = some qs) (ho : o.op = .build t ps)
  (he : evalOp T.LP C gi dst (.build zs qs raw) s = some s') : Bd T g w tss s s' ts dst gi ((execOp (⟨ts, df⟩ : Act).eval o).run T.P w) := by
 simp only [evalOp] at he
 split at he
 ·rename_i cs' hcs'
  obtain ⟨i, v, hi, hv, hn, hr⟩ := bJ hz
  obtain ⟨cells', e1, e2, e3, e4, e5⟩ := bI (df := df) h place ps.toList qs hq v.cells (zs.map .d) cs' (by simpa using hn) (fun n c hc => by
   simp only [List.getElem?_map, Option.map_eq_some_iff] at hc
   obtain ⟨z, hz, rfl⟩ := hc
   exact .d (hr _ _ n z hz)) (fun c hc => by
   simp only [List.mem_map] at hc
   obtain ⟨z, _, rfl⟩ := hc; rfl) hcs'
  have hb : T.P.built t ((ps.map fun (i, x) => (i, (⟨ts, df⟩ : Act).eval x)).toList) = some cells' := by
   rw [bG]
   unfold Program.built
   rcases hpl with ⟨fs, rfl, rfl, hall⟩ | ⟨n, e, k, rfl, hk, rfl⟩
   ·obtain ⟨l, hl, hg⟩ := VL fs.toList hall
    simp only [hi, hu, hv, hl]
    rw [← e1]
    apply Y2
    intro x hx
    simp only [List.mem_map] at hx
    obtain ⟨y, hy, rfl⟩ := hx
    have hsome := O5 hq y hy
    simp only [List.getElem?_toArray, hg]
    unfold Zd at hsome ⊢
    cases hf : fs[y.1]? with
    | none => simp [hf] at hsome
    | some f =>
     simp only [hf] at hsome ⊢
     cases hk : DC T.P f.type with
     | none => simp [hk] at hsome
     | some k =>
      obtain ⟨_, ie, _, hie, hse, _⟩ := CU hk
      simp [hf, Program.cellsOf, hie, hse]
   ·obtain ⟨_, ie, _, hie, hse, _⟩ := CU hk
    simp only [hi, hu, hv, hie, hse]
    exact e1
  have hrun := run_build (P := T.P) w t (ps.map fun (i, x) => (i, (⟨ts, df⟩ : Act).eval x)) cells' hb
  have hrl : Bm g (.agg cells') (aK raw cs') := by
   cases raw
   ·exact Bm.norm (.agg cells' cs' e2 e4 e3)
   ·exact .agg cells' cs' e2 e4 e3
  refine A8 h hd (v := .agg cells') ?_ he hrl (by cases raw; exact C3 rfl; rfl)
  simp only [execOp, ho, Sem.run_bind, hrun, Result.andThen_ok, Sem.run_pure]
 ·simp at he
theorem AV.setV (h : AV T g w tss s ts) {g' : Gh} {t : Nat} {x0 x : LV} (hs : s.env.get t = some (.v x0)) (hw : I2 T g' w s.ctr) (hl : g.Le g')
  (hk : ∀ b p, g.ow b = some p → (∀ i, p ≠ .slot s.low.length t i) → NQ g w g' w b) (hr : EA g' w s.low.length t (ts.getD t Go.undef) (.v x)) :
  AV T g' w tss { s with env := s.env.set t (.v x) } ts := by
 have := h.setAt (j := s.low.length) (t := t) (sl0 := .v x0) (sl := .v x) (by simp [St.at, hs]) hw hl hk (by simpa [qO] using hr)
 simpa [St.setAt] using this
theorem gu {i : Nat} {take : Bool} {xo : Operand} {x : Opd} {o : Oper} (h : AV T g w tss s ts) (hd : ∀ d, dst = some d → d < ts.size)
  (hx : As xo = some x) (ho : o.op = .extract xo i) (he : evalOp T.LP C gi dst (.extract i x take) s = some s') :
  Bd T g w tss s s' ts dst gi ((execOp (⟨ts, df⟩ : Act).eval o).run T.P w) := by
 simp only [evalOp] at he
 split at he
 ·rename_i t
  have hxo : (⟨ts, df⟩ : Act).eval xo = ts.getD t Go.undef := by
   cases xo <;> simp only [As, Option.some.injEq, Option.map_eq_some_iff, reduceCtorEq, and_false, exists_false, Opd.tmp.injEq] at hx
   subst hx; rfl
  have hrun : ∀ vs : Array Value, ts.getD t Go.undef = .tuple vs → i < vs.size → (execOp (⟨ts, df⟩ : Act).eval o).run T.P w = .ok (.value (vs.getD i Go.undef)) w := by
   intro vs hvs hi
   have hg : vs[i]? = some (vs.getD i Go.undef) := by simp [Array.getD, hi]
   simp only [execOp, ho, hxo, Instr.extract, hvs, hg, Sem.run_bind, Sem.run_pure, Result.andThen_ok]
  split at he
  ·rename_i cs hcs
   have hr := (h.env t _ hcs).v_inv.1.dinv
   generalize hval : ts.getD t Go.undef = v at hr hrun
   cases hr with
   | tup vs _ hn hrep =>
    split at he
    ·rename_i y hy
     exact A8 h hd (hrun vs rfl (by rw [hn]; exact (List.getElem?_eq_some_iff.1 hy).1)) he (.d (hrep i y hy)) rfl
    ·simp at he
  ·rename_i cs hcs
   obtain ⟨hr, hown⟩ := (h.env t _ hcs).v_inv
   have hslot := h.env t _ hcs
   generalize hval : ts.getD t Go.undef = v at hr hrun hown hslot
   cases hr with
   | tup vs _ hn hrep =>
    split at he
    ·rename_i z xs hy
     obtain ⟨vs', hvs', hownc⟩ := hown
     simp only [Value.tuple.injEq] at hvs'
     subst hvs'
     obtain ⟨b, o2, cap, hv, hb, hi2, cells, e2, hh2, hcap⟩ := hownc i _ hy
     have hlt : i < vs.size := by rw [hn]; exact (List.getElem?_eq_some_iff.1 hy).1
     have hl := g.own_le b (.slot s.low.length (dst.getD 0) 0)
     have hinv := h.setV (g' := g.own b (.slot s.low.length (dst.getD 0) 0)) (x := .tup (cs.set i (.d (.slice z xs)))) hcs (h.winv.own (h.winv.ow _ _ hb)) hl (fun c q hcq hq => IU g w b _ c fun e => by
       subst e; rw [hb] at hcq; simp only [Option.some.injEq] at hcq; exact hq _ hcq.symm) (by
      rw [hval]
      refine .v (.tup vs _ (by simpa using hn) fun n c hc => ?_) ⟨vs, rfl, fun n c hc => ?_⟩
      ·rw [KH] at hc
       split at hc
       ·rename_i hin; obtain ⟨rfl, _⟩ := hin
        simp only [Option.some.injEq] at hc; subst hc
        exact ((hrep i _ hy).mono hl).cool
       ·split at hc
        ·simp at hc
        ·exact (hrep n c hc).mono hl
      ·rw [KH] at hc
       split at hc
       ·simp only [Option.some.injEq] at hc; subst hc; trivial
       ·split at hc
        ·simp at hc
        ·rename_i hne1 hne
         refine (hownc n c hc).keep fun b' hb' => IU g w b _ b' fun e => ?_
         subst e
         rw [hb] at hb'
         simp only [Option.some.injEq, DR.slot.injEq] at hb'
         omega)
     refine ⟨_, w, vs.getD i Go.undef, .inl (hrun vs rfl hlt), O6 hb, hinv.put he hd ((hrep i _ hy).mono hl) fun d hdd => ?_, fun n _ _ => rfl⟩
     subst hdd
     exact ⟨b, o2, cap, hv, by simp [Gh.own], hi2, cells, e2, hh2, hcap⟩
    ·rename_i y _ hy
     exact A8 h hd (hrun vs rfl (by rw [hn]; exact (List.getElem?_eq_some_iff.1 hy).1)) he (hrep i y hy).copy (Ht _)
    ·simp at he
  ·simp at he
 ·simp at he
end
end Go.Lf
namespace Go.Lf
open Go
def Gh.know (g : Gh) (b lo n : Nat) (us : Nat → Value) : Gh := { g with im := fun c i => if c = b ∧ lo ≤ i ∧ i < lo + n then some (us i) else g.im c i }
theorem Ia (g : Gh) {b lo n i : Nat} {us : Nat → Value} (h : lo ≤ i ∧ i < lo + n) : (g.know b lo n us).im b i = some (us i) := by
 simp [Gh.know, h.1, h.2]
theorem CY (g : Gh) {b c lo n i : Nat} {us : Nat → Value} (h : c ≠ b ∨ i < lo ∨ lo + n ≤ i) : (g.know b lo n us).im c i = g.im c i := by
 simp only [Gh.know]
 rw [if_neg (by omega)]
theorem Ys (g : Gh) {b lo n : Nat} {us : Nat → Value} (h : ∀ i, lo ≤ i → i < lo + n → g.im b i = none) : g.Le (g.know b lo n us) :=
 ⟨fun c i u hu => by
  simp only [Gh.know]
  split
  ·rename_i hc
   obtain ⟨rfl, h1, h2⟩ := hc
   rw [h i h1 h2] at hu; simp at hu
  ·exact hu, fun _ _ h => h, fun _ _ h => h, fun _ _ h => h⟩
theorem wn (g : Gh) (w : World) {b c lo n : Nat} {us : Nat → Value} (h : c ≠ b) : NQ g w (g.know b lo n us) w c :=
 ⟨rfl, fun _ => CY g (.inl h), rfl, rfl⟩
theorem NA {z : Nat} : ∀ {xs : List DV}, (∀ x, x ∈ xs → x.cells.length = z) → ∀ {j : Nat} {c : DV}, (xs.flatMap DV.cells)[j]? = some c →
  ∃ i r e, j = i * z + r ∧ r < z ∧ xs[i]? = some e ∧ e.cells[r]? = some c
 | [], _, j, c, h => by simp at h
 | x :: l, h, j, c, hc => by
  have hx := h x (by simp)
  simp only [List.flatMap_cons] at hc
  by_cases hj : j < z
  ·rw [List.getElem?_append_left (by omega)] at hc
   exact ⟨0, j, x, by omega, hj, rfl, hc⟩
  ·rw [List.getElem?_append_right (by omega), hx] at hc
   obtain ⟨i, r, e, h1, h2, h3, h4⟩ := NA (xs := l) (fun y hy => h y (by simp [hy])) hc
   exact ⟨i + 1, r, e, by rw [Nat.add_mul]; omega, h2, h3, h4⟩
theorem WO {k : Option Nat} {off : Nat} {ds : List DV} {e : DV} (h : Ak k off ds = some e) (hd : ∀ d, d ∈ ds → d.cells = [d]) :
  e.cells.length = Bl k ∧ ∀ r, r < Bl k → e.cells[r]? = ds[off + r]? := by
 cases k with
 | none =>
  simp only [Ak] at h
  have := hd e (List.mem_of_getElem? h)
  rw [this]
  refine ⟨rfl, fun r hr => ?_⟩
  simp only [Bl, Option.getD_none] at hr
  obtain rfl : r = 0 := by omega
  simp [h]
 | some n =>
  simp only [Ak] at h
  split at h
  ·rename_i hl
   simp only [Option.some.injEq] at h
   subst h
   refine ⟨hl, fun r hr => ?_⟩
   simp only [Bl, Option.getD_some] at hr
   simp only [DV.cells]
   rw [List.getElem?_take, if_pos hr, List.getElem?_drop]
  ·simp at h
theorem K7 {α β : Type} {f : α → Option β} : ∀ {l : List α} {r : List β}, l.mapM f = some r → r.length = l.length ∧ ∀ (i : Nat) (b : β), r[i]? = some b → ∃ a, l[i]? = some a ∧ f a = some b
 | [], r, h => by simp at h; subst h; exact ⟨rfl, fun i b hb => by simp at hb⟩
 | a :: l, r, h => by
  simp only [List.mapM_cons] at h
  cases ha : f a with
  | none => simp [ha] at h
  | some b =>
   cases hl : l.mapM f with
   | none => simp [ha, hl] at h
   | some bs =>
    simp [ha, hl] at h
    subst h
    obtain ⟨h1, h2⟩ := K7 hl
    refine ⟨by simp [h1], fun i c hc => ?_⟩
    cases i with
    | zero => simp only [List.getElem?_cons_zero, Option.some.injEq] at hc; subst hc; exact ⟨a, rfl, ha⟩
    | succ i => simpa using h2 i c (by simpa using hc)
theorem Np {α : Type} (zs : List α) : ∀ (n i : Nat), (List.replicate n zs).flatten[i]? = if i < n * zs.length then zs[i % zs.length]? else none
 | 0, i => by simp
 | n + 1, i => by
  simp only [List.replicate_succ, List.flatten_cons]
  by_cases h : i < zs.length
  ·rw [List.getElem?_append_left h, if_pos (by rw [Nat.add_mul]; omega), Nat.mod_eq_of_lt h]
  ·rw [List.getElem?_append_right (by omega), Np zs n]
   have : i % zs.length = (i - zs.length) % zs.length := by
    conv => lhs; rw [show i = i - zs.length + zs.length by omega]
    simp
   rw [this]
   by_cases h2 : i - zs.length < n * zs.length
   ·rw [if_pos h2, if_pos (by rw [Nat.add_mul]; omega)]
   ·rw [if_neg h2, if_neg (by rw [Nat.add_mul]; omega)]
section
variable {T : Tables} {g : Gh} {w : World} {tss : List (Array Value)} {s s' : St} {ts : Array Value} {dst : Option Nat} {gi : Nat} {df : List Deferred} {C : AM}
theorem T8 {P : Program} (w : World) (t e : TypeId) (parts : Array (Nat × Value)) (cells : Array Value) (ie : TypeInfo)
  (hu : P.underlying t = some (.slice e)) (hie : P.info? e = some ie) (h : Instr.fill (fun i => some (i * ie.size, ie.size)) #[] parts.toList = some cells) :
  (Instr.buildSlice t 0 parts).run P w = .ok (.slice (some ⟨w.heap.size, 0, none⟩) 0 0) (w.alloc (.cells cells e)) := by
 have e0 : Array.map (fun _ => (default : Value)) (Array.range 0) = #[] := Array.eq_empty_of_size_eq_zero (by simp)
 simp [Instr.buildSlice, Ae hu, sizeOf, typeInfo, hie, newRow, e0, h]
theorem OE (h : AV T g w tss s ts) (hd : ∀ d, dst = some d → d < ts.size) {w0 : World} (hw0 : w0.heap = w.heap) (ho0 : w0.os = w.os) (ht0 : w0.tape = w.tape) (hp0 : w0.output = w.output)
  {z cap : Nat} {xs : List DV} {cells : Array Value} {e : TypeId} (hlen : xs.length ≤ cap) (hz : ∀ x, x ∈ xs → x.cells.length = z) (hsz : cap * z ≤ cells.size)
  (hr : ∀ (i : Nat) (c : DV), (xs.flatMap DV.cells)[i]? = some c → Cd g.im g.fm (cells.getD i Go.undef) c)
  (hone : ∀ i, i < xs.length * z → (cells.getD i Go.undef).oneCell' = true)
  {r : Result Next} (hrun : r = .ok (.value (.slice (some ⟨w.heap.size, 0, none⟩) xs.length cap)) (World.push w0 (.cells cells e)))
  {fl : Bool} (hfl : fl = true → cap = xs.length) (hp : s.put dst (rE fl z xs) = some s') : Bd T g w tss s s' ts dst gi r := by
 have hin0 : AV T g w0 tss s ts := by
  refine h.move (g' := g) (w' := w0) ⟨fun b i u hu => ?_, h.winv.one, fun b es hf => ?_, fun b p hb => ?_, fun n b hb => ?_, fun b d hb => ?_, h.winv.ctr, h.winv.globs⟩ (.refl g) (fun b p _ => ⟨by rw [hw0], fun _ => rfl, rfl, rfl⟩)
  ·rw [← h.winv.im b i u hu]; exact Ej (by rw [hw0])
  ·rw [hw0]; exact h.winv.fm b es hf
  ·rw [hw0]; exact h.winv.ow b p hb
  ·rw [hw0]; exact h.winv.gb n b hb
  ·rw [hw0]; exact h.winv.lp b d hb
 have hb : w0.heap.size = w.heap.size := by rw [hw0]
 let p : DR := .slot s.low.length (dst.getD 0) 0
 have hf := hin0.fresh (.cells cells e) p (gn := none) (fun n e => by simp at e)
 rw [hb] at hf
 have hnone : ∀ i, g.im w.heap.size i = none := fun i => h.winv.im_fresh (Nat.le_refl _) i
 let g2 := (g.fresh w.heap.size p none).know w.heap.size 0 (xs.length * z) fun i => cells.getD i Go.undef
 have hle2 : (g.fresh w.heap.size p none).Le g2 := Ys _ fun i _ _ => hnone i
 have hle1 : g.Le (g.fresh w.heap.size p none) := TP fun n e => by simp at e
 have hle : g.Le g2 := hle1.trans hle2
 have hxz : xs.length * z ≤ cap * z := Nat.mul_le_mul_right z hlen
 have hnew : (World.push w0 (.cells cells e)).heap[w.heap.size]? = some (.cells cells e (0, 0)) := by rw [← hb]; exact K0
 have hinv : AV T g2 (World.push w0 (.cells cells e)) tss s ts := by
  have hW : I2 T g2 (World.push w0 (.cells cells e)) s.ctr := by
   refine ⟨fun b i u hu => ?_, fun b i u hu => ?_, hf.winv.fm, hf.winv.ow, hf.winv.gb, hf.winv.lp, hf.winv.ctr, fun n => (hf.winv.globs n).mono hle2.im hle2.fm⟩
   by_cases hc : b = w.heap.size ∧ 0 ≤ i ∧ i < 0 + xs.length * z
   ·obtain ⟨rfl, h1, h2⟩ := hc
    rw [Ia _ ⟨h1, h2⟩] at hu
    simp only [Option.some.injEq] at hu
    subst hu
    exact DY hnew (by omega)
   ·have : g2.im b i = (g.fresh w.heap.size p none).im b i := CY _ (by omega)
    rw [this] at hu
    exact hf.winv.im b i u hu
   by_cases hc : b = w.heap.size ∧ 0 ≤ i ∧ i < 0 + xs.length * z
   ·obtain ⟨rfl, h1, h2⟩ := hc
    rw [Ia _ ⟨h1, h2⟩] at hu
    simp only [Option.some.injEq] at hu
    subst hu
    exact hone i (by omega)
   ·have : g2.im b i = (g.fresh w.heap.size p none).im b i := CY _ (by omega)
    rw [this] at hu
    exact hf.winv.one b i u hu
  refine h.move hW hle fun b q hbq => ?_
  have hlt := h.winv.ow b q hbq
  have hu := Qx (g := g) (w := w0) (o := .cells cells e) (p := p) (gn := none) (b := b) (by omega)
  rw [hb] at hu
  refine ⟨by rw [hu.heap, hw0], fun i => ?_, rfl, by simp only [g2, Gh.know]; exact hu.ow⟩
  rw [CY _ (.inl (by omega))]; rfl
 have hrep : Cd g2.im g2.fm (.slice (some ⟨w.heap.size, 0, none⟩) xs.length cap) (.slice z xs) :=
  .slice _ 0 cap z xs (fun i => cells.getD i Go.undef) hlen hz (fun i hi => by rw [Nat.zero_add]; exact Ia _ ⟨by omega, by omega⟩) fun i c hc => (hr i c hc).mono hle.im hle.fm
 have hput : AV T g2 (World.push w0 (.cells cells e)) tss s' (gB ts dst (.slice (some ⟨w.heap.size, 0, none⟩) xs.length cap)) := by
  cases fl with
  | true =>
   obtain rfl := hfl rfl
   exact hinv.put_cold hp hd (.full hrep) rfl
  | false =>
   refine hinv.put hp hd (.hot hrep) fun d hdd => ?_
   subst hdd
   refine ⟨w.heap.size, 0, cap, rfl, ?_, fun i hi => ?_, cells, e, hnew, by omega⟩
   ·show (g.fresh w.heap.size p none).ow _ = _
    simp [Gh.fresh, p]
   ·rw [CY _ (by omega)]; exact hnone i
 refine ⟨g2, World.push w0 (.cells cells e), _, .inl hrun, ⟨hle, fun b hb' hbo => ?_, by rw [Eb, hb]; omega, by rw [← ho0]; rfl, by rw [← ht0]; rfl, by rw [← hp0]; rfl, fun b => by rw [VK rfl]; unfold Qg; rw [hw0]⟩, hput, fun n _ _ => rfl⟩
 ·refine ⟨by rw [Hk (by omega), hw0], fun i => ?_, rfl, ?_⟩
  ·rw [CY _ (.inl (by omega))]; rfl
  ·show (g.fresh w.heap.size p none).ow b = g.ow b
   simp only [Gh.fresh]; rw [if_neg (by omega)]
theorem uT {t e : TypeId} {k : Option Nat} {len : Nat} {zs : List DV} {ps : Array (Nat × Operand)} {qs : List (Nat × Nat × Opd)} {o : Oper} {fl : Bool}
  (h : AV T g w tss s ts) (hd : ∀ d, dst = some d → d < ts.size) (hu : T.P.underlying t = some (.slice e)) (hz : zeroCells T.P e = some zs) (hk : DC T.P e = some k)
  (hn0 : Bl k ≠ 0) (hsmall : ¬ len * Bl k > 2 ^ 24)
  (hq : I4 (fun i => some (i * Bl k, Bl k)) ps.toList = some qs) (ho : o.op = .buildSlice t len ps)
  (he : evalOp T.LP C gi dst (.lit k zs len qs fl) s = some s') : Bd T g w tss s s' ts dst gi ((execOp (⟨ts, df⟩ : Act).eval o).run T.P w) := by
 simp only [evalOp] at he
 split at he
 ·rename_i cs' hcs'
  split at he
  ·rename_i hok
   split at he
   ·rename_i ds hds
    split at he
    ·rename_i xs hxs
     obtain ⟨k', i, v, hk', hi, hv, hl, hn, _, hr⟩ := HY hz
     rw [hk] at hk'
     simp only [Option.some.injEq] at hk'
     subst hk'
     obtain ⟨_, i', _, hi', hsi, _⟩ := CU hk
     rw [hi] at hi'
     simp only [Option.some.injEq] at hi'
     subst hi'
     have hvs : v.cells.size = Bl k := by rw [hn, hl]
     obtain ⟨cells', e1, e2, e3, e4, e5⟩ := bI (df := df) h (fun i => some (i * Bl k, Bl k)) ps.toList qs hq ((Array.range (len * Bl k)).map (v.cells[· % v.cells.size]!)) _ cs'
      (by simp [hl, List.sum_replicate_nat]) (fun n c hc => by
      simp only [List.getElem?_map, Option.map_eq_some_iff] at hc
      obtain ⟨y, hy, rfl⟩ := hc
      rw [Np] at hy
      split at hy
      ·rename_i hlt
       rw [hl] at hlt hy
       have := hr g.im g.fm _ _ hy
       refine .d ?_
       rw [Array.getD, dif_pos (by simpa using hlt)]
       simp only [Array.getInternal_eq_getElem, Array.getElem_map, Array.getElem_range, hvs]
       have hlt2 : n % Bl k < v.cells.size := by rw [hvs]; exact Nat.mod_lt _ (by omega)
       rw [getElem!_pos v.cells _ hlt2]
       simpa [Array.getD, hlt2] using this
      ·simp at hy) (fun c hc => by
      simp only [List.mem_map] at hc
      obtain ⟨y, _, rfl⟩ := hc; rfl) hcs'
     obtain ⟨hdl, hdg⟩ := IW hds
     have hone : ∀ d, d ∈ ds → d.cells = [d] := fun d hd' => by
      obtain ⟨j, hj, hjd⟩ := List.getElem_of_mem hd'
      obtain ⟨c, hc, hcd⟩ := Hw hds (d := d) (i := j) (by rw [List.getElem?_eq_getElem hj, hjd])
      simp only [List.all_eq_true] at hok
      have := hok c (List.mem_of_getElem? hc)
      cases c with
      | d y => simp only [LV.toD, Option.some.injEq] at hcd; subst hcd; cases y <;> first | rfl | simp [LV.cellOk] at this
      | agg => simp [LV.cellOk] at this
      | tup => simp [LV.cellOk] at this
      | hot => simp only [LV.toD, Option.some.injEq] at hcd; subst hcd; rfl
      | full => simp only [LV.toD, Option.some.injEq] at hcd; subst hcd; rfl
      | ptr => simp [LV.toD] at hcd
      | mref => simp [LV.toD] at hcd
      | yield => simp [LV.toD] at hcd
      | fptr => simp only [LV.toD, Option.map_eq_some_iff] at hcd; obtain ⟨_, _, rfl⟩ := hcd; rfl
      | fn =>
       simp only [LV.toD] at hcd
       split at hcd
       ·simp only [Option.some.injEq] at hcd; subst hcd; rfl
       ·simp at hcd
     obtain ⟨hxl, hxg⟩ := K7 hxs
     have hxlen : xs.length = len := by simpa using hxl
     have hxi : ∀ (i : Nat) (x : DV), xs[i]? = some x → Ak k (i * Bl k) ds = some x := fun i x hx => by
      obtain ⟨a, ha, hf⟩ := hxg i x hx
      rw [List.getElem?_range (by have := (List.getElem?_eq_some_iff.1 hx).1; omega)] at ha
      simp only [Option.some.injEq] at ha
      subst ha; exact hf
     have hxz : ∀ x, x ∈ xs → x.cells.length = Bl k := fun x hx => by
      obtain ⟨j, hj, hjx⟩ := List.getElem_of_mem hx
      exact (WO (hxi j x (by rw [List.getElem?_eq_getElem hj, hjx])) hone).1
     have hcs : cs'.length = len * Bl k := by rw [e5]; simp [hl, List.sum_replicate_nat]
     have hrun := run_buildSlice (P := T.P) w t e len (ps.map fun (i, x) => (i, (⟨ts, df⟩ : Act).eval x)) cells' i v hu hi hv (by rw [hsi]; exact hsmall)
     by_cases hlen0 : len * i.size = 0
     ·have hl0 : len = 0 := by
       rcases Nat.mul_eq_zero.1 hlen0 with h | h
       ·exact h
       ·rw [hsi] at h; exact absurd h hn0
      subst hl0
      refine OE h hd (w0 := w) rfl rfl rfl rfl (cap := 0) (cells := cells') (e := e) (by omega) hxz (by omega) (fun i c hc => ?_) (fun i hi => by simp [hxlen] at hi) ?_ (fun _ => by omega) he
      ·have : xs = [] := List.length_eq_zero_iff.1 hxlen
       subst this; simp at hc
      ·have e0 : (Array.range (0 * Bl k)).map (v.cells[· % v.cells.size]!) = #[] := Array.eq_empty_of_size_eq_zero (by simp)
       rw [e0] at e1
       have hrun0 := T8 (P := T.P) w t e (ps.map fun (i, x) => (i, (⟨ts, df⟩ : Act).eval x)) cells' i hu hi (by rw [bG, hsi]; exact e1)
       simp only [execOp, ho, Sem.run_bind, hrun0, Result.andThen_ok, Sem.run_pure, hxlen]
       rfl
     ·have hrun' := hrun hlen0 (by rw [bG, hsi]; exact e1)
      refine OE h hd (w0 := w) rfl rfl rfl rfl (cap := len) (cells := cells') (e := e) (by omega) hxz (by omega) (fun j c hc => ?_) (fun j hj => by
       have hjc : j < cs'.length := by rw [hcs, ← hxlen]; exact hj
       have hj2 : cs'[j]? = some cs'[j] := List.getElem?_eq_getElem hjc
       simp only [List.all_eq_true] at hok
       exact Q9 (e3 j _ hj2) (hok _ (List.mem_of_getElem? hj2))) (by simp only [execOp, ho, Sem.run_bind, hrun', Result.andThen_ok, Sem.run_pure, hxlen]; rfl) (fun _ => hxlen.symm) he
      obtain ⟨a, r, x, rfl, hr', hx, hxc⟩ := NA hxz hc
      have hp := hxi a x hx
      rw [(WO hp hone).2 r hr'] at hxc
      obtain ⟨y, hy, hyd⟩ := Hw hds hxc
      exact (e3 _ y hy).toD hyd
    ·simp at he
   ·simp at he
  ·simp at he
 ·simp at he
end
end Go.Lf
namespace Go.Lf
open Go
section
variable {T : Tables} {g : Gh} {w : World} {tss : List (Array Value)} {s s' : St} {ts : Array Value} {dst : Option Nat} {gi : Nat} {df : List Deferred} {C : AM}
theorem Yu {im fm} (b o cap z : Nat) : Cd im fm (.slice (some ⟨b, o, none⟩) 0 cap) (.slice z []) :=
 .slice b o cap z [] (fun _ => Go.undef) (by simp) (by simp) (fun i hi => by simp at hi) (fun i c hc => by simp at hc)
theorem mb {im fm} {b o cap z : Nat} {xs : List DV} {us : Nat → Value} (hz : ∀ x, x ∈ xs → x.cells.length = z) (hi : ∀ i, i < xs.length * z → im b (o + i) = some (us i))
  (hr : ∀ i c, (xs.flatMap DV.cells)[i]? = some c → Cd im fm (us i) c) {l h : Nat} (hlh : l ≤ h) (hh : h ≤ xs.length) (hc : h - l ≤ cap) :
  Cd im fm (.slice (some ⟨b, o + l * z, none⟩) (h - l) cap) (.slice z ((xs.take h).drop l)) := by
 have hlen : ((xs.take h).drop l).length = h - l := by simp; omega
 have hget : ∀ (a : Nat) (e : DV), ((xs.take h).drop l)[a]? = some e → xs[l + a]? = some e := fun a e ha => by
  rw [List.getElem?_drop, List.getElem?_take] at ha
  split at ha
  ·exact ha
  ·simp at ha
 have hz' : ∀ x, x ∈ (xs.take h).drop l → x.cells.length = z := fun x hx => hz x (List.mem_of_mem_take (List.mem_of_mem_drop hx))
 have := Cd.slice (im := im) (fm := fm) b (o + l * z) cap z ((xs.take h).drop l) (fun i => us (l * z + i)) (by omega) hz' (fun i hin => by
  rw [Nat.add_assoc]
  apply hi
  rw [hlen] at hin
  have h1 : (l + (h - l)) * z ≤ xs.length * z := Nat.mul_le_mul_right z (by omega)
  rw [Nat.add_mul] at h1
  omega) (fun i c hic => by
  obtain ⟨a, r, e, rfl, h1, h2, h3⟩ := NA hz' hic
  have := hr _ _ (il hz (hget a e h2) h3)
  rwa [show l * z + (a * z + r) = (l + a) * z + r by rw [Nat.add_mul]; omega])
 rwa [hlen] at this
theorem CG {P : Program} {w : World} {n y : Nat} {c : BoundsCode} (h : n ≤ y) : (Instr.sliceBound (.int .i64 n) y c).run P w = .ok n w := by
 simp [Instr.sliceBound, asIntOf, h]
theorem Lt {P : Program} {w : World} {len cap : Nat} {l h m : Option Nat} (hm : ∀ x, m = some x → x ≤ cap ∧ h.isSome = true) (hh : ∀ x, h = some x → x ≤ m.getD cap)
  (hl : ∀ x, l = some x → x ≤ h.getD len) :
  (Instr.sliceBounds true len cap (l.map fun (n : Nat) => Value.int .i64 (n : Int)) (h.map fun (n : Nat) => Value.int .i64 (n : Int)) (m.map fun (n : Nat) => Value.int .i64 (n : Int))).run P w = .ok (l.getD 0, h.getD len, m.getD cap) w := by
 unfold Instr.sliceBounds
 cases m with
 | none =>
  cases h with
  | none =>
   cases l with
   | none => simp
   | some l => simp only [Option.getD_none] at hl; simp [CG (hl l rfl)]
  | some h =>
   have h1 := hh h rfl
   simp only [Option.getD_none] at h1
   cases l with
   | none => simp only [Option.map_some, Option.map_none, Sem.run_bind, Sem.run_pure, Result.andThen_ok, CG h1, Option.getD_none, Option.getD_some, if_true]
   | some l =>
    have h2 := hl l rfl
    simp only [Option.getD_some] at h2
    simp only [Option.map_some, Option.map_none, Sem.run_bind, Sem.run_pure, Result.andThen_ok, CG h1, CG h2, Option.getD_none, Option.getD_some, if_true]
 | some m =>
  obtain ⟨h0, hs⟩ := hm m rfl
  cases h with
  | none => simp at hs
  | some h =>
   have h1 := hh h rfl
   simp only [Option.getD_some] at h1
   cases l with
   | none => simp only [Option.map_some, Option.map_none, Sem.run_bind, Sem.run_pure, Result.andThen_ok, CG h0, CG h1, Option.getD_none, Option.getD_some, if_true]
   | some l =>
    have h2 := hl l rfl
    simp only [Option.getD_some] at h2
    simp only [Option.map_some, Sem.run_bind, Sem.run_pure, Result.andThen_ok, CG h0, CG h1, CG h2, Option.getD_some, if_true]
theorem AV.optNat (h : AV T g w tss s ts) {xo : Option Operand} {x : Option Opd} {n : Option Nat} (hx : IV xo = some x) (hn : Lf.optNat (s.val T.LP) x = some n) :
  xo.map (⟨ts, df⟩ : Act).eval = n.map fun (n : Nat) => Value.int .i64 (n : Int) := by
 cases xo with
 | none =>
  simp only [IV, Option.some.injEq] at hx
  subst hx
  simp only [Lf.optNat, Option.some.injEq] at hn
  subst hn; rfl
 | some xo =>
  simp only [IV, Option.map_eq_some_iff] at hx
  obtain ⟨y, hy, rfl⟩ := hx
  simp only [Lf.optNat, Option.map_eq_some_iff] at hn
  obtain ⟨m, hm, rfl⟩ := hn
  have := (h.val (df := df) hy).nat hm
  simp [this]
theorem nA {t e : TypeId} {k : Option Nat} {xo : Operand} {x : Opd} {loo hio mxo : Option Operand} {lo hi mx : Option Opd} {o : Oper} (h : AV T g w tss s ts)
  (hd : ∀ d, dst = some d → d < ts.size) (hu : T.P.underlying t = some (.slice e)) (hk : DC T.P e = some k) (hx : As xo = some x) (hlo : IV loo = some lo)
  (hhi : IV hio = some hi) (hmx : IV mxo = some mx) (ho : o.op = .slice t xo loo hio mxo)
  (he : evalOp T.LP C gi dst (.slice (Bl k) x lo hi mx) s = some s') : Bd T g w tss s s' ts dst gi ((execOp (⟨ts, df⟩ : Act).eval o).run T.P w) := by
 simp only [evalOp] at he
 have hX := h.val (df := df) hx
 obtain ⟨d, ie, _, hie, hs, _⟩ := CU hk
 split at he
 ·rename_i nl nh nm h1 h2 h3
  have e1 := h.optNat (df := df) hlo h1
  have e2 := h.optNat (df := df) hhi h2
  have e3 := h.optNat (df := df) hmx h3
  split at he
  ·rename_i v hv
   unfold Nj at hv
   split at hv
   ·rename_i hval
    rw [hval] at hX
    split at hv
    ·rename_i hc
     simp only [Option.some.injEq] at hv
     subst hv
     refine A8 h hd (v := .slice none 0 0) ?_ he (.d .nils) rfl
     simp only [execOp, ho, Instr.sliceAt, Sem.run_bind, Ae hu, Result.andThen_ok, Instr.slice, QS hX.dinv, e1, e2, e3]
     obtain ⟨c1, c2, c3, c4⟩ := hc
     have hb := Lt (P := T.P) (w := w) (len := 0) (cap := 0) (l := nl) (h := nh) (m := nm) (fun x hx => ?_) (fun x hx => ?_) (fun x hx => ?_)
     ·simp only [hb, Result.andThen_ok, CO hie, Sem.run_pure, c1, c2, c3]
      simp
     ·subst hx; exact ⟨by simpa using c3, c4 rfl⟩
     ·subst hx; simp only [Option.getD_some] at c2; omega
     ·subst hx; simp only [Option.getD_some] at c1; omega
    ·simp at hv
   ·split at hv
    ·simp at hv
    ·rename_i z xs hxs
     obtain ⟨b, o', sp, cap, us, hval, hsp, hcap, hz, him, hr⟩ := Hq (Iw hX hxs)
     simp only at hv
     split at hv
     ·rename_i hc
      obtain ⟨rfl, hlh, hhl⟩ := hc
      have hxl : (⟨ts, df⟩ : Act).eval xo = .slice (some ⟨b, o', sp⟩) xs.length cap := hval
      have key : ∀ m, m = nm.getD cap → nh.getD xs.length ≤ m → (nm.isSome = true → nh.isSome = true) → m ≤ cap → Cd g.im g.fm (.slice (if m = nl.getD 0 then some ⟨b, o', sp⟩ else some ⟨b, o' + nl.getD 0 * Bl k, none⟩) (nh.getD xs.length - nl.getD 0) (m - nl.getD 0)) (.slice (Bl k) ((xs.take (nh.getD xs.length)).drop (nl.getD 0))) ∧
        (execOp (⟨ts, df⟩ : Act).eval o).run T.P w = .ok (.value (.slice (if m = nl.getD 0 then some ⟨b, o', sp⟩ else some ⟨b, o' + nl.getD 0 * Bl k, none⟩) (nh.getD xs.length - nl.getD 0) (m - nl.getD 0))) w := by
       intro m hm hle hsome hcapm
       have hb := Lt (P := T.P) (w := w) (len := xs.length) (cap := cap) (l := nl) (h := nh) (m := nm)
        (fun x hx => ⟨by rw [hx] at hm; simp only [Option.getD_some] at hm; omega, hsome (by rw [hx]; rfl)⟩)
        (fun x hx => by rw [← hm]; rw [hx] at hle; simpa using hle) (fun x hx => by rw [hx] at hlh; simpa using hlh)
       refine ⟨?_, ?_⟩
       ·by_cases hml : m = nl.getD 0
        ·have h0 : nh.getD xs.length - nl.getD 0 = 0 := by omega
         have hx0 : (xs.take (nh.getD xs.length)).drop (nl.getD 0) = [] := List.length_eq_zero_iff.1 (by simp; omega)
         have h00 : m - nl.getD 0 = 0 := by omega
         rw [if_pos hml, h0, hx0, h00]
         cases sp with
         | none => exact Yu _ _ _ _
         | some sp => exact .gone _ _ _ _
        ·rw [if_neg hml]
         exact mb hz him hr hlh hhl (by omega)
       ·have hsp2 : m ≠ nl.getD 0 → sp = none := fun hne => hsp (by omega)
        cases sp with
        | some sp =>
         have hml : m = nl.getD 0 := Decidable.byContradiction fun hne => by simpa using hsp2 hne
         simp only [execOp, ho, Instr.sliceAt, Sem.run_bind, Ae hu, Result.andThen_ok, Instr.slice, hxl, e1, e2, e3, hb, CO hie, Sem.run_pure, hs, ← hm, Option.map_some]
         simp only [if_pos hml]
        | none =>
         simp only [execOp, ho, Instr.sliceAt, Sem.run_bind, Ae hu, Result.andThen_ok, Instr.slice, hxl, e1, e2, e3, hb, CO hie, Sem.run_pure, hs, ← hm, Option.map_some, HV]
      have hmx : ∀ m, nm = some m → m = nh.getD xs.length ∧ nh.isSome = true := fun m hm => by
       subst hm
       simp only at hv
       split at hv
       ·rename_i h0; exact h0
       ·simp at hv
      obtain ⟨k1, k2⟩ := key (nm.getD cap) rfl (by
       cases hnm : nm with
       | none => simp only [Option.getD_none]; omega
       | some m => have := (hmx m hnm).1; simp only [Option.getD_some]; omega) (fun hs' => by
       obtain ⟨m, hm⟩ := Option.isSome_iff_exists.1 hs'
       exact (hmx m hm).2) (by
       cases hnm : nm with
       | none => simp
       | some m => have := (hmx m hnm).1; simp only [Option.getD_some]; omega)
      cases hnm : nm with
      | none =>
       subst hnm
       simp only [Option.some.injEq] at hv
       subst hv
       exact A8 h hd k2 he (.d k1) rfl
      | some m =>
       subst hnm
       obtain ⟨rfl, hsome⟩ := hmx m rfl
       simp only at hv
       rw [if_pos ⟨by trivial, hsome⟩] at hv
       simp only [Option.some.injEq] at hv
       subst hv
       simp only [Option.getD_some] at k1 k2
       exact A8 h hd k2 he (.full k1) rfl
     ·simp at hv
  ·simp at he
 ·simp at he
end
end Go.Lf
namespace Go.Lf
open Go
theorem oC {need old q : Nat} (h : old < need) (h1 : need * q ≤ 70368744177664) : Builtin.nextslicecap need old * q ≤ 281474976710656 := by
 have := Nat.mul_le_mul_right q (nextslicecap_le h)
 rw [Nat.mul_assoc] at this
 omega
theorem Q6 {n q : Nat} (h : I7 n q = true) : n * q ≤ 70368744177664 := by simpa [I7] using h
def vals (us : Nat → Value) (n : Nat) : List Value := (List.range n).map us
theorem CS (us : Nat → Value) (n : Nat) : (vals us n).length = n := by simp [vals]
theorem NG (us : Nat → Value) {n i : Nat} (h : i < n) : (vals us n)[i]? = some (us i) := by simp [vals, h]
theorem PG {us : Nat → Value} {n i : Nat} {v : Value} (h : (vals us n)[i]? = some v) : i < n ∧ v = us i := by
 have hi : i < n := by have := (List.getElem?_eq_some_iff.1 h).1; rwa [CS] at this
 rw [NG us hi] at h
 simp only [Option.some.injEq] at h
 exact ⟨hi, h.symm⟩
theorem MN {b : Nat} {e : TypeId} : ∀ (vs : List Value) (o : Nat) (cs : Array Value) (w : World), w.heap[b]? = some (.cells cs e (0, 0)) →
  Rt w (w.setCells b o vs) b (KR cs o vs) e
 | [], _, _, _, h => ⟨h, fun _ _ => rfl, rfl, rfl, rfl, rfl⟩
 | v :: r, o, cs, w, h => by
  have hb : b < w.heap.size := (Array.getElem?_eq_some_iff.1 h).1
  have h1 : (w.setCell ⟨b, o, none⟩ v).heap[b]? = some (.cells (cs.setIfInBounds o v) e (0, 0)) := by
   rw [EG h, Az _ _ _ _ hb, if_pos rfl]
  have ih := MN r (o + 1) _ _ h1
  rw [World.setCells, KR]
  refine ⟨ih.here, fun c hc => ?_, ?_, ?_, ?_, ?_⟩
  ·rw [ih.there c hc, EG h, Az _ _ _ _ hb, if_neg hc]
  ·rw [ih.size, EG h]; simp [AE]
  ·rw [ih.os, EG h]; rfl
  ·rw [ih.tape, EG h]; rfl
  ·rw [ih.output, EG h]; rfl
section
variable {T : Tables} {g : Gh} {w : World} {tss : List (Array Value)} {s s' : St} {ts : Array Value} {dst : Option Nat} {gi : Nat} {df : List Deferred} {C : AM}
theorem Bd.after {s2 : St} {g1 : Gh} {r : Result Next} (hk : N7 g w g1 w) (hg : g1.gb = g.gb) (hc : s2.ctr = s.ctr) (h : Bd T g1 w tss s2 s' ts dst gi r) :
  Bd T g w tss s s' ts dst gi r := by
 obtain ⟨g', w', v, h1, h2, h3, h4⟩ := h
 exact ⟨g', w', v, h1, hk.trans h2, h3, fun n hn hne => by rw [h4 n (by rw [hc]; exact hn) hne, hg]⟩
theorem AV.turn (h : AV T g w tss s ts) {g' : Gh} {w' : World} {x : Nat} (hx : ∀ sl, s.env.get x = some sl → ∃ c : LV, sl = .v c ∧ c.cold = true) (hw : I2 T g' w' s.ctr)
  (hl : g.Le g') (hk : ∀ b p, g.ow b = some p → (∀ i, p ≠ .slot s.low.length x i) → NQ g w g' w' b) : AV T g' w' tss s ts := by
 refine ⟨hw, h.stack.keep hl fun c q hc hq => hk c q hc fun i e => by subst e; simp [DR.level] at hq, fun t sl hs => ?_⟩
 by_cases ht : t = x
 ·subst ht
  obtain ⟨c, rfl, hc⟩ := hx sl hs
  have hr := (h.env t _ hs).v_inv.1
  exact .v (hr.mono hl) (GK.of_cold (hr.mono hl) hc)
 ·exact (h.env t sl hs).keep hl fun c i hc => hk c _ hc fun i' e => by simp only [DR.slot.injEq] at e; exact ht e.2.1
theorem ww (h : AV T g w tss s ts) {size : Nat} {tx e' : TypeId} (htx : T.P.underlying tx = some (.slice e')) {v : Value} {y : LV} (hr : Bm g v y) :
  (y = .d .nils → v = .slice none 0 0) ∧
  ∀ {ys : List DV}, LR y = some (size, ys) → ∃ (b o : Nat) (sp : Option Nat) (cap : Nat) (us : Nat → Value), v = .slice (some ⟨b, o, sp⟩) ys.length cap ∧ (0 < ys.length → sp = none) ∧ (∀ x, x ∈ ys → x.cells.length = size) ∧
   (∀ i, i < ys.length * size → g.im b (o + i) = some (us i)) ∧ (∀ i c, (ys.flatMap DV.cells)[i]? = some c → Cd g.im g.fm (us i) c) ∧
   Src T.P size tx v ys.length (vals us (ys.length * size)) w := by
 refine ⟨fun hy => by subst hy; exact QS hr.dinv, fun {ys} hy => ?_⟩
 obtain ⟨b, o, sp, cap, us, rfl, hsp, hc, hz, hi, hrep⟩ := Hq (Iw hr hy)
 refine ⟨b, o, sp, cap, us, rfl, fun h0 => hsp (by omega), hz, hi, hrep, Src.ofSlice (P := T.P) w htx ⟨b, o, sp⟩ ys.length cap _ (CS _ _) (fun j u hu => ?_) fun u hu => ?_⟩
 ·obtain ⟨hj, rfl⟩ := PG hu
  obtain rfl := hsp (by rcases Nat.eq_zero_or_pos ys.length with h0 | h0 <;> first | omega | (rw [h0] at hj; simp at hj))
  rw [HV]
  exact h.winv.im _ _ _ (hi j hj)
 ·obtain ⟨j, hj, hju⟩ := List.getElem_of_mem hu
  obtain ⟨hj', rfl⟩ := PG (List.getElem?_eq_getElem hj ▸ congrArg some hju)
  exact h.winv.one _ _ _ (hi j hj')
theorem Kz {xo yo : Operand} {t tx : TypeId} {o : Oper} (ho : o.op = .call { callee := .builtin .append, args := #[xo, yo], argTypes := #[t, tx] }) {v : Value} {w' : World}
  {xv yv : Value} (hx : (⟨ts, df⟩ : Act).eval xo = xv) (hy : (⟨ts, df⟩ : Act).eval yo = yv)
  (hr : (Builtin.append_ #[t, tx] o.type #[xv, yv]).run T.P w = .ok v w') : (execOp (⟨ts, df⟩ : Act).eval o).run T.P w = .ok (.value v) w' := by
 simp only [execOp, ho, resolve, invoke, builtin, List.map_toArray, List.map_cons, List.map_nil, hx, hy, Sem.run_bind, Sem.run_pure, Result.andThen_ok, hr, pure_bind]
theorem fq {im fm} {z : Nat} {xs ys : List DV} {ux uy : Nat → Value} (hx : ∀ x, x ∈ xs → x.cells.length = z)
  (rx : ∀ i c, (xs.flatMap DV.cells)[i]? = some c → Cd im fm (ux i) c) (ry : ∀ i c, (ys.flatMap DV.cells)[i]? = some c → Cd im fm (uy i) c) :
  ∀ (i : Nat) (c : DV), ((xs ++ ys).flatMap DV.cells)[i]? = some c → Cd im fm (if i < xs.length * z then ux i else uy (i - xs.length * z)) c := by
 intro i c hc
 rw [List.flatMap_append] at hc
 have hl := KZ hx
 by_cases hi : i < xs.length * z
 ·rw [List.getElem?_append_left (by omega)] at hc
  rw [if_pos hi]; exact rx i c hc
 ·rw [List.getElem?_append_right (by omega), hl] at hc
  rw [if_neg hi]; exact ry _ c hc
theorem Ui (h : AV T g w tss s ts) (hd : ∀ d, dst = some d → d < ts.size) {xo yo : Operand} {t tx e : TypeId} {i : TypeInfo} {zv : Value} {q : Nat} {o : Oper}
  (ho : o.op = .call { callee := .builtin .append, args := #[xo, yo], argTypes := #[t, tx] })
  (ht : T.P.underlying t = some (.slice e)) (hi : T.P.info? e = some i) (hz : i.zero = some zv) (hzv : zv.cells.size = i.size) (hb : i.bytes = q) (hq0 : q ≠ 0)
  {base : Option Addr} {cap : Nat} {xs ys : List DV} {ux uy : Nat → Value} {yv : Value} (hxv : (⟨ts, df⟩ : Act).eval xo = .slice base xs.length cap) (hyv : (⟨ts, df⟩ : Act).eval yo = yv)
  (hxz : ∀ x, x ∈ xs → x.cells.length = i.size) (hyz : ∀ x, x ∈ ys → x.cells.length = i.size)
  (hold : (Builtin.firstCells i.size xs.length (.slice base xs.length cap)).run T.P w.drew = .ok (vals ux (xs.length * i.size)).toArray w.drew)
  (hox : ∀ j, j < xs.length * i.size → (ux j).oneCell' = true) (rx : ∀ i c, (xs.flatMap DV.cells)[i]? = some c → Cd g.im g.fm (ux i) c)
  (ry : ∀ i c, (ys.flatMap DV.cells)[i]? = some c → Cd g.im g.fm (uy i) c) (hs : Src T.P i.size tx yv ys.length (vals uy (ys.length * i.size)) w)
  (hg : cap < xs.length + ys.length) (hroom : (xs.length + ys.length) * q ≤ 70368744177664) (hp : s.put dst (.hot i.size (xs ++ ys)) = some s') :
  Bd T g w tss s s' ts dst gi ((execOp (⟨ts, df⟩ : Act).eval o).run T.P w) := by
 subst hb
 have hfit := oC hg hroom
 have hnb : (xs.length + ys.length) * i.bytes ≤ 281474976710656 := Nat.le_trans (Nat.mul_le_mul_right _ (le_nextslicecap hg)) hfit
 have h63 : ((xs.length + ys.length : Nat) : Int) ≤ 9223372036854775807 := by
  have : xs.length + ys.length ≤ (xs.length + ys.length) * i.bytes := Nat.le_mul_of_pos_right _ (by omega)
  omega
 have hrun := run_append_grow_src (P := T.P) w t tx o.type e i zv ht hi hz base xs.length cap _ hold yv ys.length _ hs hg h63 hfit
 have hge := grownCap_ge w (xs.length + ys.length) cap e
 have hzs : (Builtin.zeroCells zv.cells (grownCap w (xs.length + ys.length) cap e - (xs.length + ys.length))).size = (grownCap w (xs.length + ys.length) cap e - (xs.length + ys.length)) * i.size := by
  simp [Builtin.zeroCells, hzv]
 have hget : ∀ j, j < (xs.length + ys.length) * i.size → (((vals ux (xs.length * i.size) ++ vals uy (ys.length * i.size)).toArray ++ Builtin.zeroCells zv.cells (grownCap w (xs.length + ys.length) cap e - (xs.length + ys.length))).getD j Go.undef) =
   if j < xs.length * i.size then ux j else uy (j - xs.length * i.size) := by
  intro j hj
  rw [Nat.add_mul] at hj
  rw [Array.getD_eq_getD_getElem?, Array.getElem?_append_left (by simp [CS]; omega)]
  simp only [List.getElem?_toArray]
  by_cases hjx : j < xs.length * i.size
  ·rw [List.getElem?_append_left (by rw [CS]; exact hjx), NG _ hjx, if_pos hjx]; rfl
  ·rw [List.getElem?_append_right (by rw [CS]; omega), CS, NG _ (by omega), if_neg hjx]; rfl
 refine OE h hd (w0 := w.drew) (z := i.size) (cap := grownCap w (xs.length + ys.length) cap e) (xs := xs ++ ys) rfl rfl rfl rfl (by simpa using hge) (fun x hx => ?_) ?_ (fun j c hc => ?_) (fun j hj => ?_)
  (Kz ho hxv hyv (by rw [hrun]; simp only [List.length_append]; rfl)) (fl := false) (fun h => by cases h) hp
 ·rcases List.mem_append.1 hx with hx | hx
  ·exact hxz x hx
  ·exact hyz x hx
 ·have hcm : grownCap w (xs.length + ys.length) cap e * i.size = (xs.length + ys.length) * i.size + (grownCap w (xs.length + ys.length) cap e - (xs.length + ys.length)) * i.size := by
   rw [← Nat.add_mul]; congr 1; omega
  rw [Array.size_append, hzs]
  simp only [List.size_toArray, List.length_append, CS]
  rw [hcm, Nat.add_mul]
  omega
 ·have hlt : j < (xs.length + ys.length) * i.size := by
   have h1 := (List.getElem?_eq_some_iff.1 hc).1
   rw [List.flatMap_append, List.length_append, KZ hxz, KZ hyz, ← Nat.add_mul] at h1
   exact h1
  rw [hget j hlt]
  exact fq hxz rx ry j c hc
 ·have hlt : j < (xs.length + ys.length) * i.size := by simpa using hj
  rw [hget j hlt]
  split
  ·exact hox j ‹_›
  ·rw [Nat.add_mul] at hlt
   exact hs.one _ (List.mem_of_getElem? (NG uy (i := j - xs.length * i.size) (by omega)))
theorem m8 {b o n : Nat} {us : Nat → Value} (h : AV T g w tss s ts) (hi : ∀ i, i < n → g.im b (o + i) = some (us i)) (j : Nat) (u : Value) (hu : (vals us n)[j]? = some u) :
  w.drew.cell? ((⟨b, o, none⟩ : Addr).add j) = some u := by
 obtain ⟨hj, rfl⟩ := PG hu
 rw [HV]
 exact h.winv.im _ _ _ (hi j hj)
theorem Jg {a b : Nat} (h : 0 < a * b) : 0 < a := by
 rcases Nat.eq_zero_or_pos a with h1 | h1
 ·rw [h1] at h; simp at h
 ·exact h1
theorem qU {b o n : Nat} {sp : Option Nat} {us : Nat → Value} (h : AV T g w tss s ts) (hsp : 0 < n → sp = none) (hi : ∀ i, i < n → g.im b (o + i) = some (us i)) (j : Nat) (u : Value) (hu : (vals us n)[j]? = some u) :
  w.drew.cell? ((⟨b, o, sp⟩ : Addr).add j) = some u := by
 obtain ⟨hj, -⟩ := PG hu
 obtain rfl := hsp (by omega)
 exact m8 h hi j u hu
theorem UG {P : Program} {t tx ty e : TypeId} {i : TypeInfo} (ht : P.underlying t = some (.slice e)) (hi : P.info? e = some i) {base : Option Addr} {n cap : Nat} {yv : Value}
  (hs : Src P i.size tx yv 0 [] w) (hn : n ≤ cap) : (Builtin.append_ #[t, tx] ty #[.slice base n cap, yv]).run P w = .ok (.slice base n cap) w := by
 rcases hs.kind with ⟨e', hk⟩ | hk <;> cases base <;> simp [Builtin.append_, Ae ht, Ae hk, sizeOf, typeInfo, hi, hs.len, hn, hs.cells, storeCells]
theorem ku {xo yo : Operand} {x y : Opd} {t tx e e' : TypeId} {k : Option Nat} {zs : List DV} {q : Nat} {o : Oper} (h : AV T g w tss s ts) (hd : ∀ d, dst = some d → d < ts.size)
  (ho : o.op = .call { callee := .builtin .append, args := #[xo, yo], argTypes := #[t, tx] }) (ht : T.P.underlying t = some (.slice e)) (htx : T.P.underlying tx = some (.slice e'))
  (hk : DC T.P e = some k) (hz : zeroCells T.P e = some zs) (hb : bytesOf T.P e = some q) (hn0 : Bl k ≠ 0) (hq0 : q ≠ 0) (hx : As xo = some x) (hy : As yo = some y)
  (he : evalOp T.LP C gi dst (.append (Bl k) q x y) s = some s') :
  Bd T g w tss s s' ts dst gi ((execOp (⟨ts, df⟩ : Act).eval o).run T.P w) := by
 simp only [evalOp] at he
 obtain ⟨k', i, zv, hk', hi, hzv, hzl, hzs, _, _⟩ := HY hz
 rw [hk] at hk'
 simp only [Option.some.injEq] at hk'
 subst hk'
 obtain ⟨_, i', _, hi', hsi, _⟩ := CU hk
 rw [hi] at hi'
 simp only [Option.some.injEq] at hi'
 subst hi'
 have hbq : i.bytes = q := by simpa [bytesOf, hi] using hb
 have hzc : zv.cells.size = i.size := by rw [hzs, hzl, hsi]
 obtain ⟨h1, h2, h3, h4, h5⟩ := h.take (df := df) hx
 split at he
 ·rename_i v hv
  have hY := h2.val (df := df) hy
  obtain ⟨hyn, hys⟩ := ww h2 (size := i.size) htx hY
  have hcold : (s.take T.LP x).1.cold = true → (s.take T.LP x).2 = s := fun hc => by
   rcases h5 with ⟨_, h⟩ | ⟨t', z, xs, _, hh, _⟩
   ·exact h
   ·rw [hh] at hc; simp [LV.cold] at hc
  generalize hxv : (s.take T.LP x).1 = xv at h1 h5 hv hcold
  generalize hyv : (s.take T.LP x).2.val T.LP y = yv at hv hY hyn hys
  generalize hs2 : (s.take T.LP x).2 = s2 at h2 h3 h4 h5 he hcold
  unfold A9 at hv
  have none_case : ∀ {yw : Value} (hyw : (⟨ts, df⟩ : Act).eval yo = yw), Src T.P i.size tx yw 0 [] w → v = xv → (xv = .d .nils ∨ ∃ z xs, xv = .full z xs ∨ xv = .hot z xs) →
    Bd T g w tss s s' ts dst gi ((execOp (⟨ts, df⟩ : Act).eval o).run T.P w) := by
   intro yw hyw hsrc hve hform
   subst hve
   have hrun : ∃ base n cap, (⟨ts, df⟩ : Act).eval xo = .slice base n cap ∧ n ≤ cap := by
    rcases hform with rfl | ⟨z, xs, rfl | rfl⟩
    ·exact ⟨none, 0, 0, QS h1.dinv, Nat.le_refl _⟩
    ·obtain ⟨b, o, sp, cap, us, hval, _, hc, _⟩ := Hq (Iw h1 rfl); exact ⟨_, _, _, hval, hc⟩
    ·obtain ⟨b, o, sp, cap, us, hval, _, hc, _⟩ := Hq (Iw h1 rfl); exact ⟨_, _, _, hval, hc⟩
   obtain ⟨base, n, cap, hval, hnc⟩ := hrun
   have hr := Kz (T := T) ho hval hyw (UG (P := T.P) (ty := o.type) ht hi hsrc hnc)
   rw [← hval] at hr
   rcases h5 with ⟨hc, rfl⟩ | ⟨t', z, xs, rfl, rfl, hbot, _, hown⟩
   ·exact A8 h hd hr he h1 hc
   ·obtain ⟨b, o2, cap2, hv2, hb2, hi2, cells, e2, hh2, hcap2⟩ := hown
    have hre := h2.reown (p := .slot s.low.length (dst.getD 0) 0) (b := b) (x := t') (i := 0) (by rw [h3]; exact hb2) fun sl hs => by rw [hbot] at hs; simp only [Option.some.injEq] at hs; subst hs; exact ⟨_, rfl, rfl⟩
    refine ⟨_, w, _, .inl hr, O6 hb2, hre.put he hd (h1.mono (g.own_le b _)) fun d hdd => ?_, fun n _ _ => rfl⟩
    subst hdd
    rw [h3]
    exact ⟨b, o2, cap2, hv2, by simp [Gh.own], hi2, cells, e2, hh2, hcap2⟩
  split at hv
  ·
   have hyw := hyn rfl
   have hsrc : Src T.P i.size tx (.slice none 0 0) 0 [] w := Src.ofNil (P := T.P) w htx 0
   split at hv
   ·simp only [Option.some.injEq] at hv
    exact (none_case hyw hsrc hv.symm (.inl rfl))
   ·split at hv
    ·simp only [Option.some.injEq] at hv
     exact (none_case hyw hsrc hv.symm (.inr ⟨_, _, .inl rfl⟩))
    ·simp at hv
   ·split at hv
    ·rename_i hc
     subst hc
     simp only [Option.some.injEq] at hv
     exact (none_case hyw hsrc hv.symm (.inr ⟨_, _, .inr rfl⟩))
    ·simp at hv
   ·simp at hv
  ·split at hv
   ·simp at hv
   ·rename_i zy ys hel
    split at hv
    ·simp at hv
    ·rename_i hzy
     have hzy : zy = Bl k := Decidable.not_not.1 hzy
     subst hzy
     rw [← hsi] at hel
     obtain ⟨by', oy, spy, capy, uy, hyw, hspy, hyz, hyi, hyr, hsrc⟩ := hys hel
     by_cases hy0 : ys = []
     ·
      subst hy0
      have hsrc0 : Src T.P i.size tx (.slice (some ⟨by', oy, spy⟩) 0 capy) 0 [] w := by simpa [vals, hyw] using hsrc
      have hyw0 : (⟨ts, df⟩ : Act).eval yo = .slice (some ⟨by', oy, spy⟩) 0 capy := by simpa using hyw
      split at hv
      ·simp only [if_true, Option.some.injEq] at hv
       exact (none_case hyw0 hsrc0 hv.symm (.inl rfl))
      ·split at hv
       ·simp only [if_true, Option.some.injEq] at hv
        exact (none_case hyw0 hsrc0 hv.symm (.inr ⟨_, _, .inl rfl⟩))
       ·simp at hv
      ·split at hv
       ·rename_i hc
        obtain ⟨rfl, _⟩ := hc
        simp only [Option.some.injEq, List.append_nil] at hv
        exact (none_case hyw0 hsrc0 hv.symm (.inr ⟨_, _, .inr rfl⟩))
       ·simp at hv
      ·simp at hv
     ·have hyl : 0 < ys.length := List.length_pos_iff.2 hy0
      obtain rfl := hspy hyl
      rw [hyw] at hsrc
      split at hv
      ·
       rw [if_neg hy0] at hv
       split at hv
       ·rename_i hrm
        simp only [Option.some.injEq] at hv
        subst hv
        have := hcold rfl
        subst this
        have hxw := QS h1.dinv
        exact Ui (T := T) (xs := []) (ys := ys) (base := none) (cap := 0) (ux := fun _ => Go.undef) (uy := uy) (gi := gi) (s' := s') h hd ho ht hi hzv hzc hbq hq0 (by simpa using hxw) hyw (by simp) hyz
         (by simp [vals, Builtin.firstCells]) (by simp) (by simp) hyr hsrc (by simpa using hyl) (by simpa using Q6 hrm) (by rw [hsi]; exact he)
       ·simp at hv
      ·
       rename_i zx xs
       split at hv
       ·rename_i hc
        subst hc
        split at hv
        ·rename_i hrm
         simp only [Option.some.injEq] at hv
         subst hv
         have := hcold rfl
         subst this
         generalize hxw : (⟨ts, df⟩ : Act).eval xo = xw at h1
         cases h1 with
         | @full a n _ _ h1 =>
          obtain ⟨b, o2, sp2, cap, ux, hval, hsp2, hc, hxz, hxi, hxr⟩ := Hq h1
          simp only [Value.slice.injEq] at hval
          obtain ⟨rfl, rfl, rfl⟩ := hval
          exact Ui (T := T) (xs := xs) (ys := ys) (ux := ux) (uy := uy) (gi := gi) (s' := s') h hd ho ht hi hzv hzc hbq hq0 hxw hyw (by rw [hsi]; exact hxz) hyz
           (run_firstCells_some (P := T.P) w.drew i.size _ _ _ _ _ (CS _ _) (qU h (fun h0 => hsp2 (Jg h0)) (by rw [hsi]; exact hxi)))
           (fun j hj => h.winv.one _ _ _ (hxi j (by rw [hsi] at hj; exact hj))) hxr hyr hsrc (by omega) (Q6 hrm) (by rw [hsi]; exact he)
        ·simp at hv
       ·simp at hv
      ·
       rename_i zx xs
       split at hv
       ·rename_i hc
        obtain ⟨rfl, hrm⟩ := hc
        simp only [Option.some.injEq] at hv
        subst hv
        rcases h5 with ⟨hc, _⟩ | ⟨t', z, xs', rfl, hh, hbot, _, hown⟩
        ·simp [LV.cold] at hc
        ·simp only [LV.hot.injEq] at hh
         obtain ⟨rfl, rfl⟩ := hh
         obtain ⟨b, o2, sp2, cap, us, hval, _, hcap, hxz, hxi, hxr⟩ := Hq (Iw h1 rfl)
         obtain ⟨b', o2', cap', hv2, hb2, hi2, cells, e2, hh2, hroom⟩ := hown
         rw [hval] at hv2
         simp only [Value.slice.injEq, Option.some.injEq, Addr.mk.injEq, and_true, true_and] at hv2
         obtain ⟨⟨rfl, rfl, rfl⟩, rfl⟩ := hv2
         by_cases hfit : xs.length + ys.length ≤ cap
         ·have hst := MN (vals uy (ys.length * i.size)) (o2 + xs.length * i.size) cells w hh2
          have hxy : xs.length * i.size + ys.length * i.size ≤ cap * i.size := by rw [← Nat.add_mul]; exact Nat.mul_le_mul_right _ hfit
          rw [← hsi] at hroom hi2 hxi hxz
          have hroom2 : o2 + xs.length * i.size + ys.length * i.size ≤ cells.size := by omega
          have hcell : ∀ j, j < cells.size → w.cell? ⟨b, j, none⟩ = some (cells.getD j Go.undef) := fun j hj => DY hh2 hj
          have hrun := Kz (T := T) ho hval hyw (run_append_room_src (P := T.P) w t tx o.type e i ht hi b o2 xs.length cap _ ys.length _ hsrc hfit
           (fun j hj => by rw [CS] at hj; rw [hcell _ (by omega)]; rfl) (fun j _ => by simp [World.frozen?, hh2]))
          generalize hw' : w.setCells b (o2 + xs.length * i.size) (vals uy (ys.length * i.size)) = w' at hst hrun
          let g' := g.know b (o2 + xs.length * i.size) (ys.length * i.size) fun j => uy (j - (o2 + xs.length * i.size))
          have hle : g.Le g' := Ys g fun j hj _ => hi2 j hj
          have hnew : ∀ j, j < cells.size → w'.cell? ⟨b, j, none⟩ = some (if o2 + xs.length * i.size ≤ j ∧ j < o2 + xs.length * i.size + ys.length * i.size then uy (j - (o2 + xs.length * i.size)) else cells.getD j Go.undef) := fun j hj => by
           rw [DY hst.here (by rw [J6]; exact hj), NL _ _ _ _ (by rw [CS]; exact hroom2), CS]
           split
           ·rename_i hin
            simp only [List.getD, NG uy (show j - (o2 + xs.length * i.size) < ys.length * i.size by omega), Option.getD_some]
           ·rfl
          have hW : I2 T g' w' s2.ctr := by
           refine ⟨fun b' j u hu => ?_, fun b' j u hu => ?_, fun b' es hf => ?_, fun b' p hp => ?_, fun n b' hn => ?_, fun b' d hb => ?_, h2.winv.ctr, fun n => (h2.winv.globs n).mono hle.im hle.fm⟩
           ·by_cases hb' : b' = b
            ·subst hb'
             by_cases hin : o2 + xs.length * i.size ≤ j ∧ j < o2 + xs.length * i.size + ys.length * i.size
             ·rw [Ia _ hin] at hu
              simp only [Option.some.injEq] at hu
              subst hu
              rw [hnew j (by omega), if_pos hin]
             ·rw [CY _ (by omega)] at hu
              have hc := h2.winv.im _ _ _ hu
              have hjs : j < cells.size := by
               rcases Nat.lt_or_ge j cells.size with h' | h'
               ·exact h'
               ·simp [World.cell?, hh2, Array.getElem?_eq_none h'] at hc
              rw [hcell j hjs] at hc
              rw [hnew j hjs, if_neg hin]; exact hc
            ·rw [CY _ (.inl hb')] at hu
             rw [Ej (hst.there _ hb')]
             exact h2.winv.im _ _ _ hu
           ·by_cases hin : b' = b ∧ o2 + xs.length * i.size ≤ j ∧ j < o2 + xs.length * i.size + ys.length * i.size
            ·obtain ⟨rfl, hin⟩ := hin
             rw [Ia _ hin] at hu
             simp only [Option.some.injEq] at hu
             subst hu
             exact hsrc.one _ (List.mem_of_getElem? (NG uy (i := j - (o2 + xs.length * i.size)) (by omega)))
            ·rw [CY _ (by omega)] at hu
             exact h2.winv.one _ _ _ hu
           ·have : b' ≠ b := fun e => by subst e; obtain ⟨c, hc⟩ := h2.winv.fm _ _ hf; rw [hh2] at hc; simp at hc
            rw [hst.there _ this]; exact h2.winv.fm _ _ hf
           ·rw [hst.size]; exact h2.winv.ow _ _ hp
           ·rw [hst.size]; exact h2.winv.gb _ _ hn
           ·obtain ⟨r, hr, hd'⟩ := h2.winv.lp _ _ hb
            have : b' ≠ b := fun e => by subst e; rw [hh2] at hr; simp at hr
            exact ⟨r, by rw [hst.there _ this]; exact hr, hd'⟩
          have hunch : ∀ c, c ≠ b → NQ g w g' w' c := fun c hc => ⟨hst.there c hc, fun j => CY g (.inl hc), rfl, rfl⟩
          have hslot : ∀ sl, s2.env.get t' = some sl → ∃ c : LV, sl = .v c ∧ c.cold = true := fun sl hs => by
           rw [hbot] at hs; simp only [Option.some.injEq] at hs; subst hs; exact ⟨_, rfl, rfl⟩
          have hturn : AV T g' w' tss s2 ts := h2.turn (x := t') hslot hW hle fun c p hcp hp => hunch c fun e => by
           subst e; rw [hb2] at hcp; simp only [Option.some.injEq] at hcp; rw [h3] at hp; exact hp 0 hcp.symm
          have hre := hturn.reown (p := .slot s.low.length (dst.getD 0) 0) (b := b) (x := t') (i := 0) (by rw [h3]; exact hb2) hslot
          have hrep : Cd g'.im g'.fm (.slice (some ⟨b, o2, none⟩) (xs.length + ys.length) cap) (.slice (Bl k) (xs ++ ys)) := by
           have hxy' : ∀ x, x ∈ xs ++ ys → x.cells.length = i.size := fun x hx => by
            rcases List.mem_append.1 hx with hx | hx
            ·exact hxz x hx
            ·exact hyz x hx
           have := Cd.slice (im := g'.im) (fm := g'.fm) b o2 cap i.size (xs ++ ys) (fun j => if j < xs.length * i.size then us j else uy (j - xs.length * i.size)) (by simpa using hfit) hxy' (fun j hj => by
            rw [List.length_append, Nat.add_mul] at hj
            by_cases hjx : j < xs.length * i.size
            ·rw [CY _ (by omega), if_pos hjx]; exact hxi j hjx
            ·rw [Ia _ (by omega), if_neg hjx]
             congr 2; omega) (fun j c hc => (fq hxz hxr hyr j c hc).mono hle.im hle.fm)
           rwa [List.length_append, hsi] at this
          refine ⟨g'.own b (.slot s.low.length (dst.getD 0) 0), w', _, .inl hrun, ⟨hle.trans (g'.own_le b _), fun c hc hco => ?_, by rw [hst.size]; exact Nat.le_refl _, hst.os, hst.tape, hst.output, fun c => by
           unfold Qg
           by_cases hc : c = b
           ·subst hc; rw [hst.here, hh2]; rfl
           ·rw [hst.there c hc]⟩,
           hre.put he hd (.hot (hrep.mono (g'.own_le b _).im (g'.own_le b _).fm)) fun d hdd => ?_, fun n _ _ => rfl⟩
          ·have hcb : c ≠ b := fun e => by subst e; rw [hb2] at hco; simp at hco
           exact (hunch c hcb).trans (IU g' w' b _ c hcb)
          ·subst hdd
           rw [h3]
           refine ⟨b, o2, cap, by rw [List.length_append], by simp [Gh.own], fun j hj => ?_, _, e2, hst.here, by rw [J6, ← hsi]; exact hroom⟩
           rw [List.length_append, Nat.add_mul, ← hsi] at hj
           show g'.im b j = none
           rw [CY _ (by omega)]
           exact hi2 j (by omega)
         ·exact Bd.after (.refl g w) rfl h4 (Ui (T := T) (xs := xs) (ys := ys) (ux := us) (uy := uy) (gi := gi) (s' := s') h2 hd ho ht hi hzv hzc hbq hq0 hval hyw (by rw [hsi]; exact hxz) hyz
           (run_firstCells_some (P := T.P) w.drew i.size _ _ _ _ _ (CS _ _) (m8 h (by rw [hsi]; exact hxi)))
           (fun j hj => h.winv.one _ _ _ (hxi j (by rw [hsi] at hj; exact hj))) hxr hyr hsrc (by omega) (Q6 hrm) (by rw [hsi]; exact he))
       ·simp at hv
      ·simp at hv
 ·simp at he
end
end Go.Lf
