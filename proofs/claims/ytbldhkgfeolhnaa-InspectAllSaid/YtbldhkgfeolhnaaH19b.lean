import Derived.Test.YtbldhkgfeolhnaaH19
namespace Go.Proofs.Ytbldhkgfeolhnaa.D
open Go Go.GD Go.Proofs Go.RowKit Go.Shelf

attribute [local go_sem] Oper.semAt_some

/-- a block of cells that lies as it lay -/
def Row3 (W : World) (B : Nat) (t : TypeId) (vs : Array Value) : Prop := W.heap[B]? = some (.cells vs t (0, 0))
theorem Row3.lt {W : World} {B : Nat} {t : TypeId} {v : Array Value} (h : Row3 W B t v) : B < W.heap.size := (Array.getElem?_eq_some_iff.1 h).1
theorem Row3.new (W : World) (t : TypeId) (v : Array Value) : Row3 (W.alloc (.cells v t)) W.heap.size t v := World.alloc_heap_new W _
theorem Row3.kept {W W' : World} {row : Option Nat} {B : Nat} {t : TypeId} {v : Array Value} (h : Row3 W B t v) (hg : W.grownBy W' row) (hne : some B ≠ row) : Row3 W' B t v := (hg.block B h.lt hne).trans h
theorem Row3.alloc {W : World} {B : Nat} {t : TypeId} {v : Array Value} (h : Row3 W B t v) (o : Obj) : Row3 (W.alloc o) B t v := h.kept (World.grownBy_alloc W o none) (by simp)
theorem Row3.c {W : World} {B : Nat} {t : TypeId} {a b c : Value} (h : Row3 W B t #[a, b, c]) : W.cell? ⟨B, 0, none⟩ = some a ∧ W.cell? ⟨B, 1, none⟩ = some b ∧ W.cell? ⟨B, 2, none⟩ = some c ∧ W.frozen? ⟨B, 0, none⟩ = false ∧ W.frozen? ⟨B, 1, none⟩ = false ∧ W.frozen? ⟨B, 2, none⟩ = false := by
  have h : W.heap[B]? = some (.cells #[a, b, c] t (0, 0)) := h
  simp [World.cell?, World.frozen?, h]
theorem row3_own {β : Type} (B : Nat) (t : TypeId) (f : β → Array Value) : Own (fun s W => Row3 W B t (f s)) := fun s X Y row hs hg hrow =>
  hs.kept hg (fun e' => by obtain ⟨o, ho, hc⟩ := hrow B e'.symm; rw [show X.heap[B]? = _ from hs] at ho; cases ho; cases hc)

theorem grownBy_set (W : World) (b o : Nat) (v : Value) : W.grownBy (W.setCell ⟨b, o, none⟩ v) (some b) :=
  ⟨rfl, rfl, rfl, (KeepsWalks.setCell W _ v).size, fun k _ hk => Below.heap_setCell _ _ _ k (fun e => hk (by rw [e]))⟩
theorem Row3.other {W : World} {B : Nat} {t : TypeId} {vs : Array Value} (h : Row3 W B t vs) {b : Nat} (hne : B ≠ b) (o : Nat) (v : Value) : Row3 (W.setCell ⟨b, o, none⟩ v) B t vs := h.kept (grownBy_set W b o v) (fun e => hne (by cases e; rfl))
theorem Row3.set {W : World} {B : Nat} {t : TypeId} {vs : Array Value} (h : Row3 W B t vs) (o : Nat) (v : Value) : Row3 (W.setCell ⟨B, o, none⟩ v) B t (vs.setIfInBounds o v) := by
  obtain ⟨hlt, hk⟩ := Array.getElem?_eq_some_iff.1 h
  show (W.heap.modify B _)[B]? = _
  rw [Array.getElem?_eq_getElem (by rw [Array.size_modify]; exact hlt), Array.getElem_modify_self, hk]
  rfl
theorem box_other {W : World} {B : Nat} {t : TypeId} {v : Value} (h : Boxed W B t v) {b : Nat} (hne : B ≠ b) (o : Nat) (u : Value) : Boxed (W.setCell ⟨b, o, none⟩ u) B t v := h.kept (grownBy_set W b o u) (fun e => hne (by cases e; rfl))

def tst (item t : Int) (g : Sg) : Bool := bif g.1 == item then decide (g.2.2 ≤ t) else false

def lastV (zs : List Sg) (item t : Int) : Sg × Bool := match zs.reverse.find? (tst item t) with
  | some g => (g, true)
  | none => ((0, 0, 0), false)
theorem downto_snd (zs : List Sg) : (downto zs zs.length).map (·.2) = zs.reverse := by
  apply List.ext_getElem
  · simp [downto]
  · intro i h1 h2
    have hi : i < zs.length := by simpa using h2
    have : zs.length - 1 - i < zs.length := by omega
    simp [downto, this]
theorem downto_take (zs : List Sg) {k : Nat} (hk : k ≤ zs.length) : downto zs k = (downto zs zs.length).take k := by
  rw [downto, downto, ← List.map_take, List.take_range, Nat.min_eq_left hk]
theorem lastV_none (zs : List Sg) (item t : Int) (h : ∀ p, p ∈ downto zs zs.length → tst item t p.2 = false) : lastV zs item t = ((0, 0, 0), false) := by
  have : zs.reverse.find? (tst item t) = none := by
    rw [← downto_snd, List.find?_eq_none]
    intro g hg
    obtain ⟨p, hp, rfl⟩ := List.mem_map.1 hg
    rw [h p hp]; simp
  rw [lastV, this]
theorem lastV_some (zs : List Sg) (item t : Int) {k : Nat} (hk : k ≤ zs.length) (ini : List (Int × Sg)) (last : Int × Sg) (e : downto zs k = ini ++ [last]) (h : ∀ p, p ∈ ini → tst item t p.2 = false) (hl : tst item t last.2 = true) : lastV zs item t = (last.2, true) := by
  have e2 : zs.reverse = ini.map (·.2) ++ (last.2 :: ((downto zs zs.length).drop k).map (·.2)) := by
    rw [← downto_snd]
    conv => lhs; rw [← List.take_append_drop k (downto zs zs.length), ← downto_take zs hk, e]
    simp
  have h1 : (ini.map (·.2)).find? (tst item t) = none := by
    rw [List.find?_eq_none]
    intro g hg
    obtain ⟨p, hp, rfl⟩ := List.mem_map.1 hg
    rw [h p hp]; simp
  have : zs.reverse.find? (tst item t) = some last.2 := by
    rw [e2, List.find?_append, h1, List.find?_cons, hl]; rfl
  rw [lastV, this]

set_option maxRecDepth 100000 in
set_option maxHeartbeats 4000000 in
theorem last_in (F : Fence) (n : Nat) (h17 : F.fn 17) (h32 : F.fn 32) (h38 : F.fn 38) (hro : F.round = none) (hn : 4 ≤ n) (iv : Value) (ev : Int) (a : Option Addr) (len cap : Nat) (zs : List Sg) (hreach : zs.length ≤ maxLen) (item t : Int) (w : World) (hI : Signs w.heap.size w a len cap zs) :
    CallsIn F n Try.prog 17 #[.agg #[iv, .int .i64 ev, .slice a len cap], .int .i64 item, .int .i64 t] w fun e W' => e = .returned (.tuple #[sgV (lastV zs item t).1, .bool (lastV zs item t).2]) ∧ Below w.heap.size w W' := by
  have h1 : 1 ≤ n := by omega
  refine callsIn_of_wp_marks Try.func17 rfl h17 ?_ hro
  simp only [Try.ntmps17, List.size_toArray, List.length_cons, List.length_nil, Nat.reduceAdd, Nat.reduceSub, Array.replicate_succ, Array.replicate_zero, List.push_toArray, List.append_toArray, List.nil_append, List.cons_append]
  gi_wp2_with (gi_at_call 32; refine (back_in F (n - 1) h32 hro _ _ _ _).mono ?_; rintro e w' ⟨rfl, rfl⟩)
  have b1 := ((((Boxed.new (w.alloc (.cells #[iv, .int .i64 ev, .slice a len cap] 25)) 3 (.int .i64 item)).alloc (.cells #[.int .i64 t] 3)).alloc (.cells #[.int .i64 0, .int .i64 0, .int .i64 0] 35)).alloc (.cells #[.bool false] 4)).alloc (.cells #[.slice a len cap] 23)
  have b2 := (((Boxed.new ((w.alloc (.cells #[iv, .int .i64 ev, .slice a len cap] 25)).alloc (.cells #[.int .i64 item] 3)) 3 (.int .i64 t)).alloc (.cells #[.int .i64 0, .int .i64 0, .int .i64 0] 35)).alloc (.cells #[.bool false] 4)).alloc (.cells #[.slice a len cap] 23)
  have b3 := ((Row3.new (((w.alloc (.cells #[iv, .int .i64 ev, .slice a len cap] 25)).alloc (.cells #[.int .i64 item] 3)).alloc (.cells #[.int .i64 t] 3)) 35 #[.int .i64 0, .int .i64 0, .int .i64 0]).alloc (.cells #[.bool false] 4)).alloc (.cells #[.slice a len cap] 23)
  have b4 := (Boxed.new ((((w.alloc (.cells #[iv, .int .i64 ev, .slice a len cap] 25)).alloc (.cells #[.int .i64 item] 3)).alloc (.cells #[.int .i64 t] 3)).alloc (.cells #[.int .i64 0, .int .i64 0, .int .i64 0] 35)) 4 (.bool false)).alloc (.cells #[.slice a len cap] 23)
  have b5 := Boxed.new (((((w.alloc (.cells #[iv, .int .i64 ev, .slice a len cap] 25)).alloc (.cells #[.int .i64 item] 3)).alloc (.cells #[.int .i64 t] 3)).alloc (.cells #[.int .i64 0, .int .i64 0, .int .i64 0] 35)).alloc (.cells #[.bool false] 4)) 23 (.slice a len cap)
  simp only [World.size_alloc] at b1 b2 b3 b4 b5
  have hB0 : Below w.heap.size w ((((((w.alloc (.cells #[iv, .int .i64 ev, .slice a len cap] 25)).alloc (.cells #[.int .i64 item] 3)).alloc (.cells #[.int .i64 t] 3)).alloc (.cells #[.int .i64 0, .int .i64 0, .int .i64 0] 35)).alloc (.cells #[.bool false] 4)).alloc (.cells #[.slice a len cap] 23)) :=
    ((((((Below.refl _ w).alloc (Nat.le_refl _) _).alloc (by simp) _).alloc (by simp; omega) _).alloc (by simp; omega) _).alloc (by simp; omega) _).alloc (by simp; omega) _
  have hsz : ((((((w.alloc (.cells #[iv, .int .i64 ev, .slice a len cap] 25)).alloc (.cells #[.int .i64 item] 3)).alloc (.cells #[.int .i64 t] 3)).alloc (.cells #[.int .i64 0, .int .i64 0, .int .i64 0] 35)).alloc (.cells #[.bool false] 4)).alloc (.cells #[.slice a len cap] 23)).heap.size = w.heap.size + 6 := by simp
  generalize (((((w.alloc (.cells #[iv, .int .i64 ev, .slice a len cap] 25)).alloc (.cells #[.int .i64 item] 3)).alloc (.cells #[.int .i64 t] 3)).alloc (.cells #[.int .i64 0, .int .i64 0, .int .i64 0] 35)).alloc (.cells #[.bool false] 4)).alloc (.cells #[.slice a len cap] 23) = W0 at b1 b2 b3 b4 b5 hB0 hsz ⊢
  refine wpIn_rangeFunc_ownH hro h1 (gf := 38) (lb := #[.pointer (some ⟨w.heap.size + 1 + 1 + 1 + 1 + 1, 0, none⟩)]) rfl h38 (enters_of Try.func38 (by kernel_rfl) rfl)
    (back_stops F (n - 1) h38 hro (by omega) (w.heap.size + 1 + 1 + 1 + 1 + 1) a len cap zs hreach W0 (by omega) b5.cell (by
      obtain ⟨q1, q2, q3⟩ := hI.below hB0 (Nat.le_refl _)
      exact ⟨q1, q2, q3.imp id fun ⟨b, off, e, hb, hc⟩ => ⟨b, off, e, by omega, hc⟩⟩)) belowK_t (belowK_b (by omega)) (Below.refl _ _) (fun _ => rfl)
    (fun pre W => ((∀ p, p ∈ pre → tst item t p.2 = false) ∧ w.heap.size + 6 ≤ W.heap.size) ∧ ((Boxed W (w.heap.size + 1) 3 (.int .i64 item) ∧ Boxed W (w.heap.size + 1 + 1) 3 (.int .i64 t)) ∧ (Row3 W (w.heap.size + 1 + 1 + 1) 35 #[.int .i64 0, .int .i64 0, .int .i64 0] ∧ Boxed W (w.heap.size + 1 + 1 + 1 + 1) 4 (.bool false))) ∧ Below w.heap.size w W)
    (fun c pre W => (c = .ret ∧ ∃ ini last, pre = ini ++ [last] ∧ (∀ p, p ∈ ini → tst item t p.2 = false) ∧ tst item t last.2 = true ∧ Row3 W (w.heap.size + 1 + 1 + 1) 35 #[.int .i64 last.2.1, .int .i64 last.2.2.1, .int .i64 last.2.2.2] ∧ Boxed W (w.heap.size + 1 + 1 + 1 + 1) 4 (.bool true)) ∧ Below w.heap.size w W)
    (OwnFrom.and (Own.from (fun _ _ _ _ h hg _ => ⟨h.1, Nat.le_trans h.2 hg.size⟩) _) (OwnFrom.and (OwnFrom.and (OwnFrom.and (Own.from (boxed_own _ _ _) _) (Own.from (boxed_own _ _ _) _)) (OwnFrom.and (Own.from (row3_own _ _ _) _) (Own.from (boxed_own _ _ _) _))) (ownFrom_below (Nat.le_refl _) (by omega))))
    (fun c => OwnFrom.and (Own.from (fun s A B row hs hg hr => by
      obtain ⟨hc, ini, last, e1, e2, e3, e4, e5⟩ := hs
      exact ⟨hc, ini, last, e1, e2, e3, row3_own _ _ (fun (_ : Unit) => _) () A B row e4 hg hr, boxed_own _ _ (fun (_ : Unit) => _) () A B row e5 hg hr⟩) _) (ownFrom_below (Nat.le_refl _) (by omega)))
    ⟨⟨(fun p hp => by cases hp), by omega⟩, ⟨⟨b1, b2⟩, b3, b4⟩, hB0⟩
    (fun x a' W => ∃ Bx, w.heap.size + 5 < Bx ∧ Row3 W Bx 35 #[.int .i64 x.2.1, .int .i64 x.2.2.1, .int .i64 x.2.2.2] ∧ a' = { tmps := #[.agg #[iv, .int .i64 ev, .slice a len cap], .int .i64 item, .int .i64 t, .pointer (some ⟨w.heap.size, 0, none⟩), .pointer (some ⟨w.heap.size + 1, 0, none⟩), .pointer (some ⟨w.heap.size + 1 + 1, 0, none⟩), .pointer (some ⟨w.heap.size + 1 + 1 + 1, 0, none⟩), .pointer (some ⟨w.heap.size + 1 + 1 + 1 + 1, 0, none⟩), undef, .pointer (some ⟨Bx, 0, none⟩),
      .pointer (some ⟨w.heap.size, 2, none⟩), .slice a len cap, .func (.func 38) #[] #[.pointer (some ⟨w.heap.size + 1 + 1 + 1 + 1 + 1, 0, none⟩)], .int .i64 x.1, sgV x.2, undef, undef, undef, undef, undef, undef, undef, undef, undef, undef, undef, undef], defers := [] })
    (fun x a' _ X Y row hs hg hr => by obtain ⟨Bx, h1, h2, h3⟩ := hs; exact ⟨Bx, h1, row3_own Bx 35 (fun (_ : Unit) => _) () X Y row h2 hg (fun r e => (hr r e).2), h3⟩)
    ?assign ?body ?done ?stop
  case assign =>
    rintro l pre x W K ⟨⟨hpre, hsz⟩, ⟨⟨d1, d2⟩, d3, d4⟩, hB⟩ hK
    gi_wp2
    exact hK _ _ ((KeepsOthers.alloc _ _).from _) ((Below.refl _ W).alloc hsz _) ⟨⟨hpre, by rw [World.size_alloc]; omega⟩, ⟨⟨d1.alloc _, d2.alloc _⟩, d3.alloc _, d4.alloc _⟩, hB.alloc hB.size _⟩ ⟨W.heap.size, by omega, Row3.new W 35 _, rfl⟩
  case body =>
    rintro l pre x a' W hl ⟨r, hr⟩ ⟨⟨hpre, hsz⟩, ⟨⟨d1, d2⟩, d3, d4⟩, hB⟩ ⟨Bx, hBx, bX, rfl⟩ hlt
    have e1 := d1.cell
    have e2 := d2.cell
    have e4 := d4.cell
    have e5 := d4.frozen
    obtain ⟨x0, x1, x2, _, _, _⟩ := bX.c
    obtain ⟨y0, y1, y2, z0, z1, z2⟩ := d3.c
    gi_wp2
    · have hx1 : x.2.1 = item := by assumption
      have hx2 : x.2.2.2 ≤ t := by assumption
      have hT : tst item t x.2 = true := by rw [tst, hx1, beq_self_eq_true]; exact decide_eq_true hx2
      refine ⟨((((KeepsOthers.setCell _ _ _).trans (KeepsOthers.setCell _ _ _)).trans (KeepsOthers.setCell _ _ _)).trans (KeepsOthers.setCell _ _ _)).from _, ⟨rfl, pre, x, rfl, hpre, hT, ?_, ?_⟩, ?_⟩
      · rw [hx1]
        exact (((d3.set 0 _).set 1 _).set 2 _).other (by omega) _ _
      · exact (box_other (box_other (box_other d4 (by omega) 0 _) (by omega) 1 _) (by omega) 2 _).set _
      · exact (((hB.setCell (by show _ ≤ _ + 1 + 1 + 1; omega) _).setCell (by show _ ≤ _ + 1 + 1 + 1; omega) _).setCell (by show _ ≤ _ + 1 + 1 + 1; omega) _).setCell (by show _ ≤ _ + 1 + 1 + 1 + 1; omega) _
    · have hx1 : x.2.1 = item := by assumption
      have hx2 : t < x.2.2.2 := by assumption
      have hT : tst item t x.2 = false := by rw [tst, hx1, beq_self_eq_true]; exact decide_eq_false (by omega)
      exact ⟨KeepsFrom.refl _ _, Below.refl _ _, ⟨(fun p hp => (List.mem_append.1 hp).elim (hpre p) fun e => by rw [List.mem_singleton.1 e]; exact hT), hsz⟩, ⟨⟨d1, d2⟩, d3, d4⟩, hB⟩
    · have hx1 : ¬ x.2.1 = item := by assumption
      have hT : tst item t x.2 = false := by rw [tst, beq_eq_false_iff_ne.2 hx1]; rfl
      exact ⟨KeepsFrom.refl _ _, Below.refl _ _, ⟨(fun p hp => (List.mem_append.1 hp).elim (hpre p) fun e => by rw [List.mem_singleton.1 e]; exact hT), hsz⟩, ⟨⟨d1, d2⟩, d3, d4⟩, hB⟩
  case done =>
    rintro D ys W hD rfl ⟨⟨hpre, hsz⟩, ⟨⟨d1, d2⟩, d3, d4⟩, hB⟩ hK
    have e4 := d4.cell
    have e5 := d4.frozen
    obtain ⟨y0, y1, y2, z0, z1, z2⟩ := d3.c
    have hL := lastV_none zs item t hpre
    gi_wp2
    have hK' := ((((KeepsOthers.setCell W ⟨w.heap.size + 1 + 1 + 1, 0, none⟩ (.int .i64 0)).trans (KeepsOthers.setCell _ ⟨w.heap.size + 1 + 1 + 1, 1, none⟩ (.int .i64 0))).trans (KeepsOthers.setCell _ ⟨w.heap.size + 1 + 1 + 1, 2, none⟩ (.int .i64 0))).trans (KeepsOthers.setCell _ ⟨w.heap.size + 1 + 1 + 1 + 1, 0, none⟩ (.bool false))).same D _ hK rfl
    refine ⟨by simp, .inl ⟨_, _, rfl, run_takeDeferred hK', ?_⟩⟩
    have f3 := row3_own _ _ (fun (_ : Unit) => _) () _ _ _ ((((d3.set 0 (.int .i64 0)).set 1 (.int .i64 0)).set 2 (.int .i64 0)).other (b := w.heap.size + 1 + 1 + 1 + 1) (by omega) 0 (.bool false)) (grownBy_putObj' _ D (.deferred none)) (fun r e => by cases e; exact ⟨_, hK', rfl⟩)
    have f4 := boxed_own _ _ (fun (_ : Unit) => _) () _ _ _ ((box_other (box_other (box_other d4 (b := w.heap.size + 1 + 1 + 1) (by omega) 0 (.int .i64 0)) (b := w.heap.size + 1 + 1 + 1) (by omega) 1 (.int .i64 0)) (b := w.heap.size + 1 + 1 + 1) (by omega) 2 (.int .i64 0)).set (.bool false)) (grownBy_putObj' _ D (.deferred none)) (fun r e => by cases e; exact ⟨_, hK', rfl⟩)
    obtain ⟨g0, g1, g2, _, _, _⟩ := Row3.c f3
    have g4 := f4.cell
    refine ⟨.tuple #[sgV (0, 0, 0), .bool false], ?_, by rw [hL], ((((hB.setCell (by show _ ≤ _ + 1 + 1 + 1; omega) _).setCell (by show _ ≤ _ + 1 + 1 + 1; omega) _).setCell (by show _ ≤ _ + 1 + 1 + 1; omega) _).setCell (by show _ ≤ _ + 1 + 1 + 1 + 1; omega) _).trans (belowK_b (w := w) (Nat.le_refl _) _ D _ _ (by omega) hK' rfl rfl)⟩
    simp [results, Try.f17, go_sem, g0, g1, g2, g4]
  case stop =>
    rintro D c pre W hD ⟨k, hk, rfl⟩ ⟨⟨rfl, ini, last, e1, e2, e3, e4, e5⟩, hB⟩ hK
    have hL := lastV_some zs item t hk ini last e1 e2 e3
    have e6 := e5.cell
    obtain ⟨y0, y1, y2, z0, z1, z2⟩ := e4.c
    gi_wp2
    refine ⟨by simp, .inl ⟨_, _, rfl, run_takeDeferred hK, ?_⟩⟩
    have f3 := row3_own _ _ (fun (_ : Unit) => _) () _ _ _ e4 (grownBy_putObj' _ D (.deferred none)) (fun r e => by cases e; exact ⟨_, hK, rfl⟩)
    have f4 := boxed_own _ _ (fun (_ : Unit) => _) () _ _ _ e5 (grownBy_putObj' _ D (.deferred none)) (fun r e => by cases e; exact ⟨_, hK, rfl⟩)
    obtain ⟨g0, g1, g2, _, _, _⟩ := Row3.c f3
    have g4 := f4.cell
    refine ⟨.tuple #[sgV last.2, .bool true], ?_, by rw [hL], hB.trans (belowK_b (w := w) (Nat.le_refl _) W D _ _ (by omega) hK rfl rfl)⟩
    simp [results, Try.f17, go_sem, g0, g1, g2, g4]
end Go.Proofs.Ytbldhkgfeolhnaa.D
