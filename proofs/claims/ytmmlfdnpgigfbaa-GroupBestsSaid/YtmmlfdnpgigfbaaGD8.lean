import Derived.Test.YtmmlfdnpgigfbaaGD7
import Derived.Laws.StructEq
namespace Go.GD
open Go

/-! ### the table of types -/

def zeroC : Ty → List Value → Bool
  | .unit, [] => true
  | .int k, [.int k' n] => kindBeq k k' && n == 0
  | .bool, [.bool b] => !b
  | .str, [.string s] => s.data.toList.isEmpty
  | .pair a b, cs => zeroC a (cs.take a.size) && zeroC b (cs.drop a.size)
  | .sl _, [.slice none 0 0] => true
  | .fn _ _, [.nilFunc] => true
  | _, _ => false

def zeroV (t : Ty) (v : Value) : Bool :=
  match t.isAgg, v with
  | true, .agg cs => zeroC t cs.toList
  | true, _ => false
  | false, v => zeroC t [v]

def fldsOK (tab : List TE) : List Field → List (Nat × Nat) → Bool
  | [], [] => true
  | f :: fs, (o, T) :: l => Nat.beq f.offset o && (Nat.beq f.type T && ((findTE tab T).isSome && fldsOK tab fs l))
  | _, _ => false

def arrOK (tab : List TE) (el sz : Nat) : Nat → List (Nat × Nat) → Bool
  | _, [] => (findTE tab el).isSome
  | i, (o, T) :: l => Nat.beq o (i * sz) && (Nat.beq T el && arrOK tab el sz (i + 1) l)

def descOK (tab : List TE) (e : TE) : TypeDesc → Bool
  | .int k => e.ty.beq (.int k)
  | .bool => e.ty.beq .bool
  | .string => e.ty.beq .str
  | .slice el => Nat.beq e.elem el && match findTE tab el with
    | some te => e.ty.beq (.sl te.ty) && !Nat.beq te.ty.size 0
    | none => false
  | .struct fs => e.ty.isAgg && (!e.arr && fldsOK tab fs.toList e.flds)
  | .array n el => e.ty.isAgg && (e.arr && (Nat.beq e.elem el && (Nat.beq e.flds.length n && match findTE tab el with
    | some te => arrOK tab el te.ty.size 0 e.flds
    | none => false)))
  | .func _ _ _ => match e.ty with
    | .fn _ _ => true
    | _ => false
  | _ => false

def eqSc (P : Program) (T : Nat) : Ty → Bool
  | .bool => match P.underlying T with
    | some .bool => true
    | _ => false
  | .int _ => match P.underlying T with
    | some (.int _) => true
    | _ => false
  | .str => match P.underlying T with
    | some .string => true
    | _ => false
  | _ => false

def eqFld (P : Program) : List Field → Nat → Ty → Bool
  | [f], off, t => Nat.beq f.offset off && (f.name != "_" && eqSc P f.type t)
  | f :: f' :: fs, off, .pair a b => Nat.beq f.offset off && (f.name != "_" && (eqSc P f.type a && eqFld P (f' :: fs) (off + 1) b))
  | _, _, _ => false

def eqOK (P : Program) (T : Nat) (t : Ty) : Bool :=
  eqSc P T t || match P.underlying T with
    | some (.struct fs) => !P.stoodInHeld T && (!P.eqGuardType P.depth T && (t.isAgg && eqFld P fs.toList 0 t))
    | _ => false

/-- map types whose keys are int64 -/
def mapsOK (P : Program) : List (Nat × Nat × Nat) → Bool
  | [] => true
  | (T, K, V) :: l => (match P.underlying T, P.underlying K with
    | some (.map K' V'), some (.int .i64) => Nat.beq K K' && Nat.beq V V'
    | _, _ => false) && mapsOK P l

def checkTE (P : Program) (tab : List TE) (e : TE) : Bool := mapsOK P e.mps &&
  match P.info? e.id, P.underlying e.id with
  | some i, some d => Nat.beq i.size e.ty.size && (Nat.beq i.bytes e.bytes && ((match i.zero with
    | some v => zeroV e.ty v
    | none => false) && (descOK tab e d && (!e.eqs || eqOK P e.id e.ty))))
  | _, _ => false

def TabOK (P : Program) (tab : List TE) : Prop := tab.all (checkTE P tab) = true

theorem findTE_mem : (l : List TE) → (T : Nat) → (e : TE) → findTE l T = some e → e ∈ l ∧ e.id = T
  | [], _, _, h => by cases h
  | a :: l, T, e, h => by
    simp only [findTE] at h
    split at h
    · rename_i hb
      injection h with h
      subst h
      exact ⟨List.mem_cons_self .., Nat.eq_of_beq_eq_true hb⟩
    · have := findTE_mem l T e h
      exact ⟨List.mem_cons_of_mem _ this.1, this.2⟩

structure TEfacts (P : Program) (tab : List TE) (T : Nat) (e : TE) : Prop where
  info : ∃ i, P.info? T = some i ∧ i.size = e.ty.size ∧ i.bytes = e.bytes ∧ ∃ v, i.zero = some v ∧ zeroV e.ty v = true
  desc : ∃ d, P.underlying T = some d ∧ descOK tab e d = true
  eqs : e.eqs = true → eqOK P T e.ty = true

theorem mapsOK_find {P : Program} : (l : List (Nat × Nat × Nat)) → (T : Nat) → {K V : Nat} → mapsOK P l = true → findMp l T = some (K, V) → P.underlying T = some (.map K V) ∧ P.underlying K = some (.int .i64)
  | [], _, _, _, _, h => by cases h
  | (T', K', V') :: l, T, K, V, hm, h => by
    simp only [mapsOK, Bool.and_eq_true] at hm
    simp only [findMp] at h
    split at h
    · rename_i hb
      injection h with h; injection h with h1 h2
      subst h1; subst h2
      have := Nat.eq_of_beq_eq_true hb
      subst this
      have h1 := hm.1
      split at h1
      · rename_i q1 q2
        simp only [Bool.and_eq_true] at h1
        have e1 := Nat.eq_of_beq_eq_true h1.1
        have e2 := Nat.eq_of_beq_eq_true h1.2
        subst e1; subst e2
        exact ⟨q1, q2⟩
      · cases h1
    · exact mapsOK_find l T hm.2 h

theorem findMap_mem : (l : List TE) → (T : Nat) → {x : Nat × Nat} → findMap l T = some x → ∃ e, e ∈ l ∧ findMp e.mps T = some x
  | [], _, _, h => by cases h
  | e :: l, T, x, h => by
    simp only [findMap] at h
    split at h
    · rename_i y hy
      injection h with h
      exact ⟨e, List.mem_cons_self .., by rw [hy, h]⟩
    · obtain ⟨e', h1, h2⟩ := findMap_mem l T h
      exact ⟨e', List.mem_cons_of_mem _ h1, h2⟩

theorem TabOK.map {P : Program} {tab : List TE} (h : TabOK P tab) {T K V : Nat} (hf : findMap tab T = some (K, V)) : P.underlying T = some (.map K V) ∧ P.underlying K = some (.int .i64) := by
  obtain ⟨e, hm, he⟩ := findMap_mem _ _ hf
  have := List.all_eq_true.1 h e hm
  unfold checkTE at this
  rw [Bool.and_eq_true] at this
  exact mapsOK_find _ _ this.1 he

theorem TabOK.find {P : Program} {tab : List TE} (h : TabOK P tab) {T : Nat} {e : TE} (hf : findTE tab T = some e) : TEfacts P tab T e := by
  obtain ⟨hm, rfl⟩ := findTE_mem _ _ _ hf
  have := List.all_eq_true.1 h e hm
  unfold checkTE at this
  rw [Bool.and_eq_true] at this
  replace this := this.2
  split at this
  · rename_i i d hi hd
    simp only [Bool.and_eq_true] at this
    obtain ⟨h1, h2, h3, h4, h5⟩ := this
    refine ⟨⟨i, hi, Nat.eq_of_beq_eq_true h1, Nat.eq_of_beq_eq_true h2, ?_⟩, ⟨d, hd, h4⟩, fun he => by rw [he] at h5; simpa using h5⟩
    split at h3
    · rename_i v hv; exact ⟨v, hv, h3⟩
    · cases h3
  · cases this

theorem Env.ty_some {E : Env} {T : Nat} {t : Ty} (h : E.ty T = some t) : ∃ e, findTE E.tab T = some e ∧ e.ty = t := by
  unfold Env.ty at h
  exact Option.map_eq_some_iff.1 h

section
variable {P : Program} {tab : List TE} {T : Nat} {e : TE}

theorem TEfacts.sizeOf (h : TEfacts P tab T e) (w : World) : (Go.sizeOf T).run P w = .ok e.ty.size w := by
  obtain ⟨i, hi, hs, _⟩ := h.info
  simp [Go.sizeOf, typeInfo, hi, hs]

theorem TEfacts.typeInfo (h : TEfacts P tab T e) (w : World) : ∃ i, (Go.typeInfo T).run P w = .ok i w ∧ i.bytes = e.bytes ∧ i.size = e.ty.size := by
  obtain ⟨i, hi, hs, hb, _⟩ := h.info
  exact ⟨i, by simp [Go.typeInfo, hi], hb, hs⟩

theorem TEfacts.isAgg (h : TEfacts P tab T e) (w : World) : (Go.isAgg T).run P w = .ok e.ty.isAgg w := by
  obtain ⟨d, hd, hdo⟩ := h.desc
  have hu : (Go.underlying T).run P w = .ok d w := by simp [Go.underlying, hd]
  unfold Go.isAgg
  rw [Sem.run_bind, hu]
  cases d with
  | int k => have := Ty.eq_of_beq hdo; simp [this, Ty.isAgg]
  | bool => have := Ty.eq_of_beq hdo; simp [this, Ty.isAgg]
  | string => have := Ty.eq_of_beq hdo; simp [this, Ty.isAgg]
  | slice el =>
    simp only [descOK, Bool.and_eq_true] at hdo
    obtain ⟨_, hdo⟩ := hdo
    split at hdo
    · simp only [Bool.and_eq_true] at hdo
      have := Ty.eq_of_beq hdo.1; simp [this, Ty.isAgg]
    · cases hdo
  | struct fs =>
    simp only [descOK, Bool.and_eq_true] at hdo
    simp [hdo.1]
  | array n el =>
    simp only [descOK, Bool.and_eq_true] at hdo
    simp [hdo.1]
  | func ps rs v =>
    simp only [descOK] at hdo
    split at hdo
    · rename_i a b hab; simp [hab, Ty.isAgg]
    · cases hdo
  | _ => simp [descOK] at hdo

theorem TEfacts.underlying (h : TEfacts P tab T e) (w : World) : ∃ d, (Go.underlying T).run P w = .ok d w ∧ P.underlying T = some d ∧ descOK tab e d = true := by
  obtain ⟨d, hd, hdo⟩ := h.desc
  exact ⟨d, by simp [Go.underlying, hd], hd, hdo⟩

/-- a slice type -/
theorem TEfacts.slice (h : TEfacts P tab T e) {t : Ty} (he : e.ty = .sl t) : P.underlying T = some (.slice e.elem) ∧ ∃ te, findTE tab e.elem = some te ∧ te.ty = t ∧ t.size ≠ 0 := by
  obtain ⟨d, hd, hdo⟩ := h.desc
  cases d with
  | slice el =>
    simp only [descOK, Bool.and_eq_true] at hdo
    obtain ⟨h1, hdo⟩ := hdo
    have h1 := Nat.eq_of_beq_eq_true h1
    split at hdo
    · rename_i te hte
      simp only [Bool.and_eq_true] at hdo
      have h2 := Ty.eq_of_beq hdo.1
      rw [he] at h2
      injection h2 with h2
      rw [h1]
      refine ⟨hd, te, hte, h2.symm, fun h0 => ?_⟩
      have h3 := hdo.2
      rw [← h2, h0] at h3
      simp at h3
    · cases hdo
  | int k => have := Ty.eq_of_beq hdo; rw [he] at this; cases this
  | bool => have := Ty.eq_of_beq hdo; rw [he] at this; cases this
  | string => have := Ty.eq_of_beq hdo; rw [he] at this; cases this
  | struct fs => simp [descOK, he, Ty.isAgg] at hdo
  | array n el => simp [descOK, he, Ty.isAgg] at hdo
  | func ps rs v => simp [descOK, he] at hdo
  | _ => simp [descOK] at hdo

end

theorem zero_pair {a b : Ty} {z : (Ty.pair a b).den} (h : Ty.zero (.pair a b) = some z) : a.zero = some z.1 ∧ b.zero = some z.2 := by
  simp only [Ty.zero] at h
  split at h
  · rename_i x y hx hy
    injection h with h
    subst h
    exact ⟨hx, hy⟩
  · cases h

theorem zeroC_rep {P : Program} {w : World} {Sh : Nat → Prop} {cl : Nat → Mk → Claim} (hcl : ∀ c, ∃ B, cl c .own = .hold B (fun _ => True)) :
    (t : Ty) → ∀ {c : Nat} {cs : List Value} {z : t.den}, zeroC t cs = true → cs.length = t.size → t.zero = some z → RepX P w Sh cl t c cs z (ownMarks t)
  | .unit, _, cs, _, h, hl, _ => ⟨List.eq_nil_of_length_eq_zero hl, rfl⟩
  | .int k, _, cs, z, h, hl, hz => by
    match cs, hl with
    | [v], _ =>
      cases v <;> simp [zeroC] at h
      injection hz with hz
      refine ⟨_, rfl, ?_⟩
      rw [kindBeq_eq h.1, h.2, ← hz]; rfl
  | .bool, _, cs, z, h, hl, hz => by
    match cs, hl with
    | [v], _ =>
      cases v <;> simp [zeroC] at h
      injection hz with hz
      refine ⟨_, rfl, ?_⟩
      rw [h, ← hz]; rfl
  | .str, _, cs, z, h, hl, hz => by
    match cs, hl with
    | [v], _ =>
      cases v with
      | string s =>
        simp [zeroC] at h
        injection hz with hz
        refine ⟨_, rfl, ?_⟩
        show [Value.string s] = [Value.string ⟨⟨z⟩⟩]
        rw [← hz]
        obtain ⟨⟨l⟩⟩ := s
        simp at h
        rw [h]
      | _ => simp [zeroC] at h
  | .sl t, c, cs, z, h, hl, hz => by
    match cs, hl with
    | [v], _ =>
      cases v with
      | slice a len cap =>
        obtain rfl : a = none := by cases a with
          | none => rfl
          | some _ => simp [zeroC] at h
        obtain rfl : len = 0 := by cases len with
          | zero => rfl
          | succ _ => simp [zeroC] at h
        obtain rfl : cap = 0 := by cases cap with
          | zero => rfl
          | succ _ => simp [zeroC] at h
        injection hz with hz
        obtain ⟨B, hB⟩ := hcl c
        refine ⟨none, 0, 0, _, rfl, rfl, ?_⟩
        rw [hB, ← hz]
        exact ⟨⟨rfl, Nat.le_refl _, .inl rfl⟩, trivial⟩
      | _ => simp [zeroC] at h
  | .pair a b, c, cs, z, h, hl, hz => by
    have hz := zero_pair hz
    simp only [zeroC, Bool.and_eq_true] at h
    simp only [Ty.size] at hl
    exact ⟨cs.take a.size, cs.drop a.size, _, _, (List.take_append_drop _ _).symm, rfl,
      zeroC_rep hcl a h.1 (by rw [List.length_take]; omega) hz.1, zeroC_rep hcl b h.2 (by rw [List.length_drop]; omega) hz.2⟩
  | .ptr _, _, _, _, _, _, hz => by cases hz
  | .fn _ _, _, _, _, _, _, hz => by cases hz

theorem TEfacts.zero {P : Program} {tab : List TE} {T : Nat} {e : TE} (h : TEfacts P tab T e) {z : e.ty.den} (hz : e.ty.zero = some z) (w : World) :
    ∃ cs, (zeroValue T).run P w = .ok (mkV e.ty cs) w ∧ cs.length = e.ty.size ∧ (mkV e.ty cs).cells = cs.toArray ∧ zeroC e.ty cs = true := by
  obtain ⟨i, hi, hs, _, v, hv, hzv⟩ := h.info
  have hrun : (zeroValue T).run P w = .ok v w := by simp [zeroValue, Go.typeInfo, hi, hv]
  cases hag : e.ty.isAgg with
  | true =>
    unfold zeroV at hzv
    rw [hag] at hzv
    cases v <;> simp at hzv
    rename_i cs
    have hl : ∀ (t : Ty) (cs : List Value) (z : t.den), zeroC t cs = true → t.zero = some z → cs.length = t.size := by
      intro t
      induction t with
      | pair a b iha ihb =>
        intro cs z h hz
        have hz := zero_pair hz
        simp only [zeroC, Bool.and_eq_true] at h
        have h1 := iha _ _ h.1 hz.1
        have h2 := ihb _ _ h.2 hz.2
        have := List.take_append_drop a.size cs
        have hh : cs.length = (cs.take a.size).length + (cs.drop a.size).length := by rw [← List.length_append, this]
        rw [hh, h1, h2]; rfl
      | unit => intro cs z h _; cases cs <;> simp_all [zeroC, Ty.size]
      | int k => intro cs z h _; match cs with
        | [] => simp [zeroC] at h
        | [v] => rfl
        | _ :: _ :: _ => simp [zeroC] at h
      | bool => intro cs z h _; match cs with
        | [] => simp [zeroC] at h
        | [v] => rfl
        | _ :: _ :: _ => simp [zeroC] at h
      | str => intro cs z h _; match cs with
        | [] => simp [zeroC] at h
        | [v] => rfl
        | _ :: _ :: _ => simp [zeroC] at h
      | sl t => intro cs z h _; match cs with
        | [] => simp [zeroC] at h
        | [v] => rfl
        | _ :: _ :: _ => simp [zeroC] at h
      | ptr t => intro cs z h hz; cases hz
      | fn a b => intro cs z h hz; cases hz
    refine ⟨cs.toList, ?_, hl _ _ _ hzv hz, ?_, hzv⟩
    · rw [hrun]; simp [mkV, hag]
    · simp [mkV, hag, Value.cells]
  | false =>
    unfold zeroV at hzv
    rw [hag] at hzv
    simp only at hzv
    refine ⟨[v], by rw [hrun]; simp [mkV, hag], ?_, ?_, hzv⟩
    · cases ht : e.ty <;> simp_all [Ty.size, Ty.isAgg]
    · simp only [mkV, hag, Bool.false_eq_true, ↓reduceIte, List.headD_cons]
      cases ht : e.ty <;> rw [ht] at hzv hag <;> simp [Ty.isAgg] at hag <;> cases v <;> first | rfl | simp [zeroC] at hzv

/-! ### '==' -/

theorem eqSc_run {P : Program} {w : World} {T : Nat} {t : Ty} {c d : List Value} {x y : t.den} {Ok : Nat → Prop} (h : eqSc P T t = true) (hx : RepC P t w Ok c x) (hy : RepC P t w Ok d y) (n : Nat) :
    ∃ u v b, c = [u] ∧ d = [v] ∧ (Op.equalIn (n + 1) T u v).run P w = .ok b w ∧ eqTy t x y = some b ∧ u.cells = #[u] ∧ v.cells = #[v] ∧ (isAgg T).run P w = .ok false w := by
  cases t with
  | bool =>
    simp only [eqSc] at h
    split at h
    · rename_i hu
      exact ⟨_, _, _, hx, hy, run_equalIn_bool' w n T x y hu, rfl, rfl, rfl, by simp [Go.isAgg, Go.underlying, hu]⟩
    · cases h
  | int k =>
    simp only [eqSc] at h
    split at h
    · rename_i k' hu
      exact ⟨_, _, _, hx, hy, run_equalIn_int w n T k k' x y hu, rfl, rfl, rfl, by simp [Go.isAgg, Go.underlying, hu]⟩
    · cases h
  | str =>
    simp only [eqSc] at h
    split at h
    · rename_i hu
      refine ⟨_, _, _, hx, hy, run_equalIn_string w n T _ _ hu, ?_, rfl, rfl, by simp [Go.isAgg, Go.underlying, hu]⟩
      rw [ByteArray.toList_eq, ByteArray.toList_eq]
      rfl
    · cases h
  | _ => simp [eqSc] at h

theorem part_cell {P : Program} {w : World} {T : Nat} {cs : Array Value} {off : Nat} {v : Value} (h : (isAgg T).run P w = .ok false w) (hc : cs[off]? = some v) :
    (part T cs off).run P w = .ok v w := by
  simp [part, h, hc]

theorem eqFld_run {P : Program} {w : World} {Ok : Nat → Prop} (n : Nat) (xs ys : Array Value) : (fs : List Field) → ∀ (off : Nat) (t : Ty) (c d : List Value) (x y : t.den), eqFld P fs off t = true →
    RepC P t w Ok c x → RepC P t w Ok d y → (∀ i u, c[i]? = some u → xs[off + i]? = some u) → (∀ i u, d[i]? = some u → ys[off + i]? = some u) →
    ∃ b, (Op.eqFields (n + 1) xs ys fs).run P w = .ok b w ∧ eqTy t x y = some b
  | [], _, _, _, _, _, _, h, _, _, _, _ => by simp [eqFld] at h
  | [f], off, t, c, d, x, y, h, hx, hy, hc, hd => by
    simp only [eqFld, Bool.and_eq_true, bne_iff_ne] at h
    obtain ⟨h1, h2, h3⟩ := h
    obtain ⟨u, v, b, rfl, rfl, hr, he, _, _, ha⟩ := eqSc_run (w := w) h3 hx hy n
    refine ⟨b, ?_, he⟩
    have e1 := Nat.eq_of_beq_eq_true h1
    have p1 := part_cell (cs := xs) (off := f.offset) ha (by rw [e1]; exact hc 0 u rfl)
    have p2 := part_cell (cs := ys) (off := f.offset) ha (by rw [e1]; exact hd 0 v rfl)
    simp only [Op.eqFields, ne_eq, h2, not_false_eq_true, if_true, Sem.run_bind, p1, p2, hr, Result.andThen_ok]
    cases b <;> simp
  | f :: f' :: fs, off, .pair a b, c, d, x, y, h, hx, hy, hc, hd => by
    simp only [eqFld, Bool.and_eq_true, bne_iff_ne] at h
    obtain ⟨h1, h2, h3, h4⟩ := h
    obtain ⟨c1, c2, rfl, hx1, hx2⟩ := hx
    obtain ⟨d1, d2, rfl, hy1, hy2⟩ := hy
    obtain ⟨u, v, b1, rfl, rfl, hr, he, _, _, ha⟩ := eqSc_run (w := w) h3 hx1 hy1 n
    have e1 := Nat.eq_of_beq_eq_true h1
    have p1 := part_cell (cs := xs) (off := f.offset) ha (by rw [e1]; exact hc 0 u rfl)
    have p2 := part_cell (cs := ys) (off := f.offset) ha (by rw [e1]; exact hd 0 v rfl)
    obtain ⟨b2, hr2, he2⟩ := eqFld_run n xs ys (f' :: fs) (off + 1) b c2 d2 x.2 y.2 h4 hx2 hy2
      (fun i u hu => by have := hc (i + 1) u (by simpa using hu); rwa [show off + 1 + i = off + (i + 1) by omega])
      (fun i u hu => by have := hd (i + 1) u (by simpa using hu); rwa [show off + 1 + i = off + (i + 1) by omega])
    refine ⟨b1 && b2, ?_, by simp only [eqTy, he, he2]⟩
    rw [Op.eqFields]
    simp only [ne_eq, h2, not_false_eq_true, if_true, Sem.run_bind, p1, p2, hr, Result.andThen_ok]
    cases b1 with
    | false => simp
    | true => simp [hr2]
  | _ :: _ :: _, _, .unit, _, _, _, _, h, _, _, _, _ => by simp [eqFld] at h
  | _ :: _ :: _, _, .int _, _, _, _, _, h, _, _, _, _ => by simp [eqFld] at h
  | _ :: _ :: _, _, .bool, _, _, _, _, h, _, _, _, _ => by simp [eqFld] at h
  | _ :: _ :: _, _, .str, _, _, _, _, h, _, _, _, _ => by simp [eqFld] at h
  | _ :: _ :: _, _, .sl _, _, _, _, _, h, _, _, _, _ => by simp [eqFld] at h
  | _ :: _ :: _, _, .ptr _, _, _, _, _, h, _, _, _, _ => by simp [eqFld] at h
  | _ :: _ :: _, _, .fn _ _, _, _, _, _, h, _, _, _, _ => by simp [eqFld] at h

theorem eqOK_run {P : Program} {w : World} {Ok : Nat → Prop} {T : Nat} {t : Ty} {c d : List Value} {x y : t.den} (h : eqOK P T t = true) (hx : RepC P t w Ok c x) (hy : RepC P t w Ok d y) (op : BinOp) (p q : Operand)
    (hint : ∀ k, t ≠ .int k) : ∃ b, eqTy t x y = some b ∧ (op = .eql → (do eqGuard op T p q (mkV t c) (mkV t d); binOp op T (mkV t c) (mkV t d) : Sem Value).run P w = .ok (.bool b) w) ∧
      (op = .neq → (do eqGuard op T p q (mkV t c) (mkV t d); binOp op T (mkV t c) (mkV t d) : Sem Value).run P w = .ok (.bool !b) w) := by
  simp only [eqOK, Bool.or_eq_true] at h
  rcases h with h | h
  · obtain ⟨u, v, b, rfl, rfl, hr, he, _, _, ha⟩ := eqSc_run (w := w) h hx hy 9999
    refine ⟨b, he, ?_⟩
    cases t with
    | int k => exact absurd rfl (hint k)
    | bool =>
      have e1 : u = .bool x := by injection (show [u] = [Value.bool x] from hx)
      have e2 : v = .bool y := by injection (show [v] = [Value.bool y] from hy)
      subst e1; subst e2
      constructor
      · rintro rfl
        simp [mkV, Ty.isAgg, eqGuard, binOp, Op.equal, Op.maxDepth, hr]
      · rintro rfl
        simp [mkV, Ty.isAgg, eqGuard, binOp, Op.equal, Op.maxDepth, hr]
    | str =>
      have e1 : u = .string ⟨⟨x⟩⟩ := by injection (show [u] = [Value.string ⟨⟨x⟩⟩] from hx)
      have e2 : v = .string ⟨⟨y⟩⟩ := by injection (show [v] = [Value.string ⟨⟨y⟩⟩] from hy)
      subst e1; subst e2
      have hb : ((show List UInt8 from x) == (show List UInt8 from y)) = b := by
        simpa only [eqTy, Option.some.injEq] using he
      constructor
      · rintro rfl
        simp [mkV, Ty.isAgg, eqGuard, binOp, Op.stringOp]
        exact hb
      · rintro rfl
        simp [mkV, Ty.isAgg, eqGuard, binOp, Op.stringOp]
        exact hb
    | _ => simp [eqSc] at h
  · split at h
    · rename_i fs hu
      simp only [Bool.and_eq_true, Bool.not_eq_true'] at h
      obtain ⟨h1, h2, h3, h4⟩ := h
      have hf : P.underlying T = some (.struct (P.fieldsOf T)) := by simp [Program.fieldsOf, hu]
      have hff : P.fieldsOf T = fs := by simp [Program.fieldsOf, hu]
      obtain ⟨b, hr, he⟩ := eqFld_run (P := P) 9998 c.toArray d.toArray fs.toList 0 t c d x y h4 hx hy (fun i u hu => by simpa using hu) (fun i u hu => by simpa using hu)
      have hq : (Op.equalIn 10000 T (.agg c.toArray) (.agg d.toArray)).run P w = .ok b w := by
        rw [run_equalIn_struct w 9999 T _ _ hf h1, hff]; exact hr
      have hg := fun op => run_eqGuard_agg (P := P) w op T p q c.toArray d.toArray h2
      refine ⟨b, he, ?_, ?_⟩
      · rintro rfl
        simp only [mkV, h3, if_true, Sem.run_bind, hg, Result.andThen_ok, run_eql_struct, hq]
      · rintro rfl
        simp only [mkV, h3, if_true, Sem.run_bind, hg, Result.andThen_ok, run_neq_struct, hq]
    · cases h

end Go.GD
