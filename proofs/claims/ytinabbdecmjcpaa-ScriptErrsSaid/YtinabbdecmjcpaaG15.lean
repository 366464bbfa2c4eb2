/- What script.Read keeps between two rounds, and what its answer says. Scripts as lines, plainly: the lines of a script, and that they are read as that script; where a line that is none errs. No program in sight. What Read may answer, plainly: one thing alone; and that an event of a line fits. The contract of the reference's Large of layer 35: are there too many events, or too long ones? -/
import Derived.Test.YtinabbdecmjcpaaG13
import Derived.Test.YtinabbdecmjcpaaG14
import Derived.Test.YtinabbdecmjcpaaG02
import Derived.Test.YtinabbdecmjcpaaG11
namespace Go.Proofs.Ytinabbdecmjcpaa.Script
open Go.RowKit Go.Shelf Go.Deep Go.Proofs.Ytinabbdecmjcpaa Go.Proofs.Ytinabbdecmjcpaa.Plain Go.Proofs.Ytinabbdecmjcpaa.Words Go.Proofs.Ytinabbdecmjcpaa.Named Go.Proofs.Ytinabbdecmjcpaa.Hex Go.Proofs.Ytinabbdecmjcpaa.Number Go.Proofs.Ytinabbdecmjcpaa.Queue Go.Proofs.Ytinabbdecmjcpaa.Line Go.Proofs.Ytinabbdecmjcpaa.Ev
attribute [local go_sem] Oper.semAt_some
set_option linter.unusedVariables false

/-- What has been read of lines that came. -/
theorem fold_len : ∀ (xs : List ByteArray) (st st' : Rd), foldO xs st = some st' → st'.tens.length + st'.evs.length ≤ st.tens.length + st.evs.length + xs.length
  | [], st, st', h => by cases Option.some.inj h; simp
  | x :: xs, st, st', h => by
    simp only [foldO] at h
    cases hl : lineOf st x with
    | none => rw [hl] at h; cases h
    | some s1 =>
      rw [hl] at h
      have h1 := fold_len xs s1 st' h
      have h2 : s1.tens.length + s1.evs.length ≤ st.tens.length + st.evs.length + 1 := by
        unfold lineOf takeOf at hl
        split at hl
        · repeat' split at hl
          all_goals (cases hl <;> (try simp) <;> (try omega))
        · cases hl
      simp
      omega
/-- What is known of all that was read. -/
structure Fine (M : Nat) (st : Rd) : Prop where
  nm : ∀ t ∈ st.tens, namedB 16 smallB lowB (L t.name) = true
  c0 : 0 ≤ st.cap
  c1 : st.cap ≤ 2147483647
  s0 : 0 ≤ st.sess
  s1 : st.sess ≤ 2147483647
  ev : ∀ e ∈ st.evs, ∃ l, parseOf l = (e, 0) ∧ l.length ≤ M
  ky : ∀ t ∈ st.tens, t.key.length ≤ M
theorem fields2t (l wd : List UInt8) (h : checkOf (words l) wd [116, 98] = 0) : ∃ f g, fieldsOf (words l) [116, 98] = [f, g] ∧ namedB 16 smallB lowB f.text = true ∧ g.data.length ≤ l.length := by
  obtain ⟨f2, g2, e2, hg2⟩ := fields2 l wd h
  obtain ⟨xs, hw, hlen, hs⟩ := check_zero _ _ _ h
  rw [hw]
  match xs, hlen with
  | [x, y], _ =>
    obtain ⟨a, _⟩ := signs_cons _ _ _ _ hs
    rw [hw] at e2
    refine ⟨_, _, rfl, ?_, ?_⟩
    · obtain ⟨e, b⟩ := err_t x a
      rw [e]
      exact b
    · cases e2
      exact hg2
theorem fine_take (M : Nat) (st st' : Rd) (l : List UInt8) (hl : l.length ≤ M) (h : takeOf st l = some st') (hf : Fine M st) : Fine M st' := by
  unfold takeOf at h
  split at h
  · cases Option.some.inj h; exact hf
  · split at h
    · split at h
      · cases h
      · rename_i hc
        have h0 : checkOf (words l) wTen [116, 98] = 0 := by
          by_cases e : checkOf (words l) wTen [116, 98] = 0
          · exact e
          · exact absurd (.inl e) hc
        obtain ⟨f, g, e, hn, hg⟩ := fields2t _ _ h0
        rw [e] at h
        cases Option.some.inj h
        refine ⟨fun t ht => ?_, hf.c0, hf.c1, hf.s0, hf.s1, hf.ev, fun t ht => ?_⟩
        · rcases List.mem_append.1 ht with ht | ht
          · exact hf.nm t ht
          · rw [List.mem_singleton.1 ht]; exact hn
        · rcases List.mem_append.1 ht with ht | ht
          · exact hf.ky t ht
          · rw [List.mem_singleton.1 ht]; exact Nat.le_trans hg hl
    · split at h
      · split at h
        · cases h
        · rename_i hc
          have h0 : checkOf (words l) wCap [115] = 0 := by
            by_cases e : checkOf (words l) wCap [115] = 0
            · exact e
            · exact absurd (.inl e) hc
          obtain ⟨f, e, hn⟩ := fields1 _ _ h0
          rw [e] at h
          cases Option.some.inj h
          exact ⟨hf.nm, by show (0 : Int) ≤ (f.n : Int); omega, by show (f.n : Int) ≤ 2147483647; omega, hf.s0, hf.s1, hf.ev, hf.ky⟩
      · split at h
        · split at h
          · cases h
          · rename_i hc
            have h0 : checkOf (words l) wSes [115] = 0 := by
              by_cases e : checkOf (words l) wSes [115] = 0
              · exact e
              · exact absurd (.inl e) hc
            obtain ⟨f, e, hn⟩ := fields1 _ _ h0
            rw [e] at h
            cases Option.some.inj h
            exact ⟨hf.nm, hf.c0, hf.c1, by show (0 : Int) ≤ (f.n : Int); omega, by show (f.n : Int) ≤ 2147483647; omega, hf.ev, hf.ky⟩
        · split at h
          · cases h
          · rename_i hc
            cases Option.some.inj h
            refine ⟨hf.nm, hf.c0, hf.c1, hf.s0, hf.s1, fun e he => ?_, hf.ky⟩
            rcases List.mem_append.1 he with he | he
            · exact hf.ev e he
            · refine ⟨l, ?_, hl⟩
              rw [List.mem_singleton.1 he]
              have : (parseOf l).2 = 0 := by simpa using hc
              rw [← this]
theorem fine_fold (M : Nat) : ∀ (xs : List ByteArray) (st st' : Rd), (∀ x ∈ xs, x.size ≤ M) → foldO xs st = some st' → Fine M st → Fine M st'
  | [], st, st', _, h, hf => by cases Option.some.inj h; exact hf
  | x :: xs, st, st', hM, h, hf => by
    simp only [foldO] at h
    cases hl : lineOf st x with
    | none => rw [hl] at h; cases h
    | some s1 =>
      rw [hl] at h
      refine fine_fold M xs s1 st' (fun y hy => hM y (by simp [hy])) h ?_
      unfold lineOf at hl
      split at hl
      · refine fine_take M _ _ _ ?_ hl hf
        have := hM x (by simp)
        rw [L_len, ByteArray.size_extract]
        omega
      · cases hl
theorem fine0 (M : Nat) : Fine M rd0 := ⟨(fun t h => by cases h), by decide, by decide, by decide, by decide, (fun e h => by cases h), (fun t h => by cases h)⟩
theorem named_size (x : ByteArray) (h : namedB 16 smallB lowB (L x) = true) : x.size ≤ 16 := by
  by_cases e : (L x).length ≤ 16
  · rwa [L_len] at e
  · rw [named_long _ _ _ _ (by omega)] at h; cases h
theorem below_tr {n : Nat} {w W1 W2 : World} (h2 : Below n W1 W2) (h1 : Below n w W1) : Below n w W2 := ⟨h2.os.trans h1.os, h2.tape.trans h1.tape, h2.output.trans h1.output, Nat.le_trans h1.size h2.size, fun k hk => (h2.block k hk).trans (h1.block k hk)⟩
/-- The blocks of a call of Read's that the reader does not write. -/
def exs (N : Nat) : List Nat := [N, N + 1, N + 2, N + 3, N + 5, N + 6]
/-- A result's cell, or a count's. -/
structure C1 (w : World) (x : Nat) (v : Value) : Prop where
  c : w.cell? ⟨x, 0, none⟩ = some v
  f : w.frozen? ⟨x, 0, none⟩ = false
theorem C1.same {w w' : World} {x : Nat} {v : Value} (h : C1 w x v) (hb : w'.heap[x]? = w.heap[x]?) : C1 w' x v :=
  ⟨(World.cell?_of_block (w := w) (a := ⟨x, 0, none⟩) hb).trans h.c, (World.frozen?_of_block (w := w) (a := ⟨x, 0, none⟩) hb).trans h.f⟩
structure C3 (w : World) (x : Nat) (a0 a1 a2 : Value) : Prop where
  c0 : w.cell? ⟨x, 0, none⟩ = some a0
  c1 : w.cell? ⟨x, 1, none⟩ = some a1
  c2 : w.cell? ⟨x, 2, none⟩ = some a2
  f : ∀ o, w.frozen? ⟨x, o, none⟩ = false
theorem C3.same {w w' : World} {x : Nat} {a0 a1 a2 : Value} (h : C3 w x a0 a1 a2) (hb : w'.heap[x]? = w.heap[x]?) : C3 w' x a0 a1 a2 :=
  ⟨(World.cell?_of_block (w := w) (a := ⟨x, 0, none⟩) hb).trans h.c0, (World.cell?_of_block (w := w) (a := ⟨x, 1, none⟩) hb).trans h.c1, (World.cell?_of_block (w := w) (a := ⟨x, 2, none⟩) hb).trans h.c2, fun o => (World.frozen?_of_block (w := w) (a := ⟨x, o, none⟩) hb).trans (h.f o)⟩
/-- Read's own blocks: four results, the count. -/
structure Own5 (w : World) (N : Nat) (a0 a1 a2 a3 a4 a5 a6 : Value) : Prop where
  s : C3 w N a0 a1 a2
  e : C1 w (N + 1) a3
  n : C1 w (N + 2) a4
  er : C1 w (N + 3) a5
  k : C1 w (N + 5) a6
theorem Own5.same {w w' : World} {N : Nat} {a0 a1 a2 a3 a4 a5 a6 : Value} (h : Own5 w N a0 a1 a2 a3 a4 a5 a6) (hb : ∀ b ∈ exs N, w'.heap[b]? = w.heap[b]?) : Own5 w' N a0 a1 a2 a3 a4 a5 a6 :=
  ⟨h.s.same (hb _ (by simp [exs])), h.e.same (hb _ (by simp [exs])), h.n.same (hb _ (by simp [exs])), h.er.same (hb _ (by simp [exs])), h.k.same (hb _ (by simp [exs]))⟩
theorem Own5.kept {w w' : World} {N M : Nat} {a0 a1 a2 a3 a4 a5 a6 : Value} (h : Own5 w N a0 a1 a2 a3 a4 a5 a6) (hk : Kept (N + 6) M w w') : Own5 w' N a0 a1 a2 a3 a4 a5 a6 := by
  have one : ∀ (x : Nat) (v : Value), C1 w x v → x ≠ N + 6 → C1 w' x v := fun x v hx hn => ⟨hk.cell hx.c hn, hk.frozen hx.c hn hx.f⟩
  exact ⟨⟨hk.cell h.s.c0 (by omega), hk.cell h.s.c1 (by omega), hk.cell h.s.c2 (by omega), fun o => hk.frozen h.s.c0 (by omega) (h.s.f o)⟩, one _ _ h.e (by omega), one _ _ h.n (by omega), one _ _ h.er (by omega), one _ _ h.k (by omega)⟩

/-- Between two rounds. -/
def RI (w : World) (pre : List ByteArray) (W : World) : Prop :=
  (∃ st, foldO pre rd0 = some st ∧ RdAt W w.heap.size (exs w.heap.size) (w.heap.size + 4) st) ∧ Own5 W w.heap.size (.slice none 0 0) (.int .i64 0) (.int .i64 0) (.slice none 0 0) (.int .i64 0) (.int .i64 0) (.int .i64 (pre.length : Int)) ∧ Below w.heap.size w W
/-- A round has left. -/
def RX (w : World) (pre : List ByteArray) (W : World) : Prop :=
  (∃ p x st, pre = p ++ [x] ∧ foldO p rd0 = some st ∧ lineOf st x = none) ∧ (∃ a6, Own5 W w.heap.size (.slice none 0 0) (.int .i64 0) (.int .i64 0) (.slice none 0 0) (.int .i64 (pre.length : Int)) (.int .i64 2) a6) ∧ Below w.heap.size w W
theorem RI.kept {w : World} {M : Nat} (hM : w.heap.size ≤ M) {pre : List ByteArray} {W W' : World} (h : RI w pre W) (hk : Kept (w.heap.size + 6) M W W') : RI w pre W' := by
  obtain ⟨⟨st, h1, h2⟩, h3, h4⟩ := h
  exact ⟨⟨st, h1, h2.ck ((CK.of_kept hk).mono (by simp [exs]))⟩, h3.kept hk, hk.below h4 (Nat.le_refl _) (by omega) hM⟩
theorem RX.kept {w : World} {M : Nat} (hM : w.heap.size ≤ M) {pre : List ByteArray} {W W' : World} (h : RX w pre W) (hk : Kept (w.heap.size + 6) M W W') : RX w pre W' := by
  obtain ⟨h1, ⟨a6, h3⟩, h4⟩ := h
  exact ⟨h1, ⟨a6, h3.kept hk⟩, hk.below h4 (Nat.le_refl _) (by omega) hM⟩

/-- An event at a place of a slice. -/
def EvIn (w : World) (g o i : Nat) (e : Ev) : Prop := ∃ dv, w.cell? ⟨g, o + i * 8, none⟩ = some (.int .i64 e.kind) ∧ w.cell? ⟨g, o + i * 8 + 1, none⟩ = some (.int .i64 e.session) ∧ w.cell? ⟨g, o + i * 8 + 2, none⟩ = some (.int .i64 e.stream) ∧ w.cell? ⟨g, o + i * 8 + 3, none⟩ = some (.string e.tenant) ∧ w.cell? ⟨g, o + i * 8 + 4, none⟩ = some (.int .u64 (e.n : Int)) ∧ w.cell? ⟨g, o + i * 8 + 5, none⟩ = some (.int .i64 e.m) ∧ w.cell? ⟨g, o + i * 8 + 6, none⟩ = some (.int .u64 (e.bits : Int)) ∧ w.cell? ⟨g, o + i * 8 + 7, none⟩ = some dv ∧ CRow w dv e.data
theorem EvIn.below {w w' : World} {g o i : Nat} {e : Ev} (h : EvIn w g o i e) (hb : Below w.heap.size w w') : EvIn w' g o i e := by
  obtain ⟨dv, h0, h1, h2, h3, h4, h5, h6, h7, h8⟩ := h
  exact ⟨dv, keep_c hb h0, keep_c hb h1, keep_c hb h2, keep_c hb h3, keep_c hb h4, keep_c hb h5, keep_c hb h6, keep_c hb h7, crow_below h8 hb⟩
/-- A slice of events. -/
def ERow (w : World) (v : Value) (es : List Ev) : Prop :=
  (es = [] ∧ ∃ a cap, v = .slice a 0 cap) ∨ (∃ g o cap, v = .slice (some ⟨g, o, none⟩) es.length cap ∧ ∀ (i : Nat) (e : Ev), es[i]? = some e → EvIn w g o i e)
theorem ERow.below {w w' : World} {v : Value} {es : List Ev} (h : ERow w v es) (hb : Below w.heap.size w w') : ERow w' v es := by
  rcases h with h | ⟨g, o, cap, e, h⟩
  · exact .inl h
  · exact .inr ⟨g, o, cap, e, fun i t ht => (h i t ht).below hb⟩
theorem flatE_get : ∀ (es : List Ev) (ds : List Value) (i : Nat) (e : Ev) (d : Value), es[i]? = some e → ds[i]? = some d → ∀ j u, [Value.int .i64 e.kind, .int .i64 e.session, .int .i64 e.stream, .string e.tenant, .int .u64 (e.n : Int), .int .i64 e.m, .int .u64 (e.bits : Int), d][j]? = some u → (flatE es ds)[i * 8 + j]? = some u
  | [], _, i, e, d, h, _, _, _, _ => by simp at h
  | _ :: _, [], i, e, d, _, h, _, _, _ => by simp at h
  | f :: es, c :: ds, 0, e, d, h, k, j, u, hj => by
    simp at h k
    subst h k
    have hjl : j < 8 := by
      have := (List.getElem?_eq_some_iff.1 hj).1
      simpa using this
    rw [Nat.zero_mul, Nat.zero_add]
    show ([Value.int .i64 f.kind, .int .i64 f.session, .int .i64 f.stream, .string f.tenant, .int .u64 (f.n : Int), .int .i64 f.m, .int .u64 (f.bits : Int), c] ++ flatE es ds)[j]? = some u
    rw [List.getElem?_append_left (by simpa using hjl)]
    exact hj
  | f :: es, c :: ds, i + 1, e, d, h, k, j, u, hj => by
    have := flatE_get es ds i e d (by simpa using h) (by simpa using k) j u hj
    rw [show (i + 1) * 8 + j = i * 8 + j + 8 by omega]
    exact this
theorem own_erow {w : World} {n0 : Nat} {v : Value} {es : List Ev} {ds : List Value} {bd : Nat → Prop} (ho : w.ownsRow n0 104 8 v es.length (flatE es ds)) (hr : Rows w (es.map Ev.data) ds bd) : ERow w v es := by
  rcases ho.2 with ⟨rfl, h0⟩ | ⟨g, cap, cur, rfl, hB, hg, hn, _⟩
  · exact .inl ⟨List.length_eq_zero_iff.1 h0, none, 0, rfl⟩
  · refine .inr ⟨g, 0, cap, rfl, fun i e he => ?_⟩
    have hi : i < es.length := (List.getElem?_eq_some_iff.1 he).1
    have hik : i < ds.length := by rw [hr.1]; simpa using hi
    obtain ⟨d, hd⟩ : ∃ d, ds[i]? = some d := ⟨_, List.getElem?_eq_getElem hik⟩
    have q := flatE_get es ds i e d he hd
    have c : ∀ j u, j < 8 → [Value.int .i64 e.kind, .int .i64 e.session, .int .i64 e.stream, .string e.tenant, .int .u64 (e.n : Int), .int .i64 e.m, .int .u64 (e.bits : Int), d][j]? = some u → w.cell? ⟨g, i * 8 + j, none⟩ = some u := fun j u hj hu => (World.ownsRow.cellAt ho (i * 8 + j) (by omega)).trans (q j u hu)
    rw [EvIn, Nat.zero_add]
    exact ⟨d, c 0 _ (by decide) rfl, c 1 _ (by decide) rfl, c 2 _ (by decide) rfl, c 3 _ (by decide) rfl, c 4 _ (by decide) rfl, c 5 _ (by decide) rfl, c 6 _ (by decide) rfl, c 7 _ (by decide) rfl, (hr.2 i e.data d (by simp [he]) hd).1⟩
/-- At which line a text errs. -/
def ErrAt (l : List UInt8) (k : Nat) : Prop :=
  (∃ p x st, (p ++ [x]).map L <+: linesOf l ∧ k = p.length + 1 ∧ foldO p rd0 = some st ∧ lineOf st x = none) ∨ (∃ xs st, xs.map L = linesOf l ∧ foldO xs rd0 = some st ∧ checkS st.tens st.cap st.sess ≠ 0 ∧ k = xs.length)
def ReadPost (s : ByteArray) (w : World) (e : Ending) (w' : World) : Prop :=
  Below w.heap.size w w' ∧ ((∃ k, ErrAt (L s) k ∧ e = .returned (.tuple #[setV (.slice none 0 0) 0 0, .slice none 0 0, .int .i64 (k : Int), .int .i64 2])) ∨
    (∃ xs st vt ve, xs.map L = linesOf (L s) ∧ foldO xs rd0 = some st ∧ checkS st.tens st.cap st.sess = 0 ∧ TRow w' vt st.tens ∧ ERow w' ve st.evs ∧ e = .returned (.tuple #[setV vt st.cap st.sess, ve, .int .i64 0, .int .i64 0])))

theorem cset_b {W : World} {a i b j : Nat} {v : Value} (h : a ≠ b) : (W.setCell ⟨a, i, none⟩ v).cell? ⟨b, j, none⟩ = W.cell? ⟨b, j, none⟩ := World.cell?_setCell_other _ _ _ _ (fun e => h (congrArg Addr.block e))
theorem cset_o {W : World} {a i j : Nat} {v : Value} (h : i ≠ j) : (W.setCell ⟨a, i, none⟩ v).cell? ⟨a, j, none⟩ = W.cell? ⟨a, j, none⟩ := World.cell?_setCell_other _ _ _ _ (fun e => h (congrArg Addr.off e))
theorem cset_s {W : World} {a i : Nat} {u v : Value} (h : W.cell? ⟨a, i, none⟩ = some u) : (W.setCell ⟨a, i, none⟩ v).cell? ⟨a, i, none⟩ = some v := World.cell?_setCell_same _ _ _ h
/-- Where Read's loop begins. -/
def start (w : World) (s : ByteArray) : World := ((((((w.alloc (.cells #[.slice none 0 0, .int .i64 0, .int .i64 0] 70)).alloc (.cells #[.slice none 0 0] 65)).alloc (.cells #[.int .i64 0] 3)).alloc (.cells #[.int .i64 0] 24)).alloc (.cells #[.slice none 0 0, .int .i64 0, .int .i64 0, .slice none 0 0] 110)).alloc (.cells #[.int .i64 0] 3)).alloc (.cells #[.string s] 9)
theorem start_size (w : World) (s : ByteArray) : (start w s).heap.size = w.heap.size + 7 := by simp [start]
theorem start_below (w : World) (s : ByteArray) : Below w.heap.size w (start w s) :=
  ((((((((Below.refl _ w).alloc (Nat.le_refl _) _).alloc (by simp) _).alloc (by simp; omega) _).alloc (by simp; omega) _).alloc (by simp; omega) _).alloc (by simp; omega) _).alloc (by simp; omega) _)
theorem one_at {W W' : World} {c : Array Value} {t : TypeId} {n : Nat} (hn : W.heap.size = n) (hb : Below (W.alloc (.cells c t)).heap.size (W.alloc (.cells c t)) W') : (∀ i, W'.cell? ⟨n, i, none⟩ = c[i]?) ∧ ∀ i, W'.frozen? ⟨n, i, none⟩ = false := by
  subst hn
  have hl : W.heap.size < (W.alloc (.cells c t)).heap.size := by simp
  have hh := hb.block _ hl
  exact ⟨fun i => (World.cell?_of_block (w := W.alloc (.cells c t)) (a := ⟨W.heap.size, i, none⟩) hh).trans (World.cell?_alloc_at _ _ _ _ rfl), fun i => (World.frozen?_of_block (w := W.alloc (.cells c t)) (a := ⟨W.heap.size, i, none⟩) hh).trans (World.frozen?_alloc_at _ _ _ _ rfl)⟩
theorem b_alloc (W : World) (o : Obj) : Below W.heap.size W (W.alloc o) := (Below.refl _ _).alloc (Nat.le_refl _) _
theorem start_is (w : World) (s : ByteArray) : RI w [] (start w s) ∧ C1 (start w s) (w.heap.size + 6) (.string s) := by
  have e0 := one_at (W := w) (c := #[.slice none 0 0, .int .i64 0, .int .i64 0]) (t := 70) (n := w.heap.size) rfl (bt (b_alloc _ (.cells #[.slice none 0 0] 65)) (bt (b_alloc _ (.cells #[.int .i64 0] 3)) (bt (b_alloc _ (.cells #[.int .i64 0] 24)) (bt (b_alloc _ (.cells #[.slice none 0 0, .int .i64 0, .int .i64 0, .slice none 0 0] 110)) (bt (b_alloc _ (.cells #[.int .i64 0] 3)) (b_alloc _ (.cells #[.string s] 9)))))))
  have e1 := one_at (W := w.alloc (.cells #[.slice none 0 0, .int .i64 0, .int .i64 0] 70)) (c := #[.slice none 0 0]) (t := 65) (n := w.heap.size + 1) (by simp) (bt (b_alloc _ (.cells #[.int .i64 0] 3)) (bt (b_alloc _ (.cells #[.int .i64 0] 24)) (bt (b_alloc _ (.cells #[.slice none 0 0, .int .i64 0, .int .i64 0, .slice none 0 0] 110)) (bt (b_alloc _ (.cells #[.int .i64 0] 3)) (b_alloc _ (.cells #[.string s] 9))))))
  have e2 := one_at (W := (w.alloc (.cells #[.slice none 0 0, .int .i64 0, .int .i64 0] 70)).alloc (.cells #[.slice none 0 0] 65)) (c := #[.int .i64 0]) (t := 3) (n := w.heap.size + 2) (by simp) (bt (b_alloc _ (.cells #[.int .i64 0] 24)) (bt (b_alloc _ (.cells #[.slice none 0 0, .int .i64 0, .int .i64 0, .slice none 0 0] 110)) (bt (b_alloc _ (.cells #[.int .i64 0] 3)) (b_alloc _ (.cells #[.string s] 9)))))
  have e3 := one_at (W := ((w.alloc (.cells #[.slice none 0 0, .int .i64 0, .int .i64 0] 70)).alloc (.cells #[.slice none 0 0] 65)).alloc (.cells #[.int .i64 0] 3)) (c := #[.int .i64 0]) (t := 24) (n := w.heap.size + 3) (by simp) (bt (b_alloc _ (.cells #[.slice none 0 0, .int .i64 0, .int .i64 0, .slice none 0 0] 110)) (bt (b_alloc _ (.cells #[.int .i64 0] 3)) (b_alloc _ (.cells #[.string s] 9))))
  have e4 := one_at (W := (((w.alloc (.cells #[.slice none 0 0, .int .i64 0, .int .i64 0] 70)).alloc (.cells #[.slice none 0 0] 65)).alloc (.cells #[.int .i64 0] 3)).alloc (.cells #[.int .i64 0] 24)) (c := #[.slice none 0 0, .int .i64 0, .int .i64 0, .slice none 0 0]) (t := 110) (n := w.heap.size + 4) (by simp) (bt (b_alloc _ (.cells #[.int .i64 0] 3)) (b_alloc _ (.cells #[.string s] 9)))
  have e5 := one_at (W := ((((w.alloc (.cells #[.slice none 0 0, .int .i64 0, .int .i64 0] 70)).alloc (.cells #[.slice none 0 0] 65)).alloc (.cells #[.int .i64 0] 3)).alloc (.cells #[.int .i64 0] 24)).alloc (.cells #[.slice none 0 0, .int .i64 0, .int .i64 0, .slice none 0 0] 110)) (c := #[.int .i64 0]) (t := 3) (n := w.heap.size + 5) (by simp) (b_alloc _ (.cells #[.string s] 9))
  have e6 := one_at (W := (((((w.alloc (.cells #[.slice none 0 0, .int .i64 0, .int .i64 0] 70)).alloc (.cells #[.slice none 0 0] 65)).alloc (.cells #[.int .i64 0] 3)).alloc (.cells #[.int .i64 0] 24)).alloc (.cells #[.slice none 0 0, .int .i64 0, .int .i64 0, .slice none 0 0] 110)).alloc (.cells #[.int .i64 0] 3)) (c := #[.string s]) (t := 9) (n := w.heap.size + 6) (by simp) (Below.refl _ _)
  have hz := start_size w s
  refine ⟨⟨⟨rd0, rfl, .slice none 0 0, .slice none 0 0, [], [], ?_⟩, ⟨⟨e0.1 0, e0.1 1, e0.1 2, e0.2⟩, ⟨e1.1 0, e1.2 0⟩, ⟨e2.1 0, e2.2 0⟩, ⟨e3.1 0, e3.2 0⟩, ⟨e5.1 0, e5.2 0⟩⟩, start_below w s⟩, ⟨e6.1 0, e6.2 0⟩⟩
  refine ⟨e4.1 0, e4.1 1, e4.1 2, e4.1 3, e4.2, World.ownsRow_nil _ _ _ _, World.ownsRow_nil _ _ _ _, ⟨rfl, fun i l d h => by simp [rd0] at h⟩, ⟨rfl, fun i l d h => by simp [rd0] at h⟩, (fun h => by cases h), (fun h => by cases h), (fun g h => by cases h), by omega, fun b hb => ⟨?_, (fun h => by cases h), (fun h => by cases h), ?_⟩⟩
  · simp [exs] at hb; omega
  · simp [exs] at hb; omega

end Go.Proofs.Ytinabbdecmjcpaa.Script

namespace Go.Proofs.Ytinabbdecmjcpaa.Script
open Go.Proofs.Ytinabbdecmjcpaa Go.Proofs.Ytinabbdecmjcpaa.Plain Go.Proofs.Ytinabbdecmjcpaa.Named Go.Proofs.Ytinabbdecmjcpaa.Number Go.Proofs.Ytinabbdecmjcpaa.Ev
open Go.Lib (decDigits)
set_option linter.unusedVariables false

def tenL (t : Ten) : List UInt8 := wTen ++ 32 :: (L t.name ++ 32 :: hexOf t.key)
def capL (n : Nat) : List UInt8 := wCap ++ 32 :: decDigits n
def sesL (n : Nat) : List UInt8 := wSes ++ 32 :: decDigits n
def evL (e : Ev) : List UInt8 := (printOf e).getD []
/-- The lines of a script. -/
def linesL (ts : List Ten) (cap sess : Nat) (es : List Ev) : List (List UInt8) := ts.map tenL ++ [capL cap, sesL sess] ++ es.map evL

/-! ### Words -/
theorem good_dec (n : Nat) : Ev.Good (decDigits n) := by
  refine ⟨dec_ne n, fun c hc => ?_⟩
  have h := digs_dec n
  unfold digs at h
  rw [List.all_eq_true] at h
  have := digit_bd (h c hc)
  omega
theorem good_named (l : List UInt8) (h : namedB 16 smallB lowB l = true) : Ev.Good l := by
  unfold namedB at h
  simp only [Bool.and_eq_true, decide_eq_true_eq] at h
  obtain ⟨⟨⟨h1, _⟩, h2⟩, _⟩ := h
  refine ⟨fun e => by rw [e] at h1; simp at h1, fun c hc => ?_⟩
  rw [List.all_eq_true] at h2
  have := h2 c hc
  simp [smallB, lowB, digitB] at this
  omega
theorem good_hex (l : List UInt8) : Ev.Good (hexOf l) := by
  unfold hexOf
  split
  · exact ⟨by simp, fun c hc => by simp at hc; subst hc; decide⟩
  · rename_i hn
    refine ⟨fun e => ?_, fun c hc => ?_⟩
    · have := congrArg List.length e
      rw [hexs_len] at this
      exact hn (List.length_eq_zero_iff.1 (by simp at this; omega))
    · unfold hexs at hc
      rw [List.mem_flatMap] at hc
      obtain ⟨d, _, hc⟩ := hc
      have hd := d.toNat_lt
      unfold two at hc
      simp at hc
      rcases hc with rfl | rfl
      · rw [sg_toNat _ (by omega)]; split <;> omega
      · rw [sg_toNat _ (by omega)]; split <;> omega
theorem no10_good (w : List UInt8) (h : Ev.Good w) : 10 ∉ w := fun hc => by
  have := h.2 10 hc
  exact absurd this (by decide)
theorem no10_join : ∀ (ws : List (List UInt8)), (∀ x ∈ ws, Ev.Good x) → 10 ∉ join ws
  | [], _ => by simp [join]
  | [w], h => no10_good w (h w (by simp))
  | w :: x :: ws, h => by
    rw [join_cons]
    simp only [List.mem_append, List.mem_cons, not_or]
    exact ⟨no10_good w (h w (by simp)), by decide, no10_join (x :: ws) (fun y hy => h y (by simp only [List.mem_cons] at hy ⊢; exact .inr hy))⟩
theorem good_wTen : Ev.Good wTen := ⟨by decide, by decide⟩
theorem good_wCap : Ev.Good wCap := ⟨by decide, by decide⟩
theorem good_wSes : Ev.Good wSes := ⟨by decide, by decide⟩
theorem tenL_good (t : Ten) (h : namedB 16 smallB lowB (L t.name) = true) : ∀ x ∈ [wTen, L t.name, hexOf t.key], Ev.Good x := fun x hx => by
  simp at hx
  rcases hx with rfl | rfl | rfl
  · exact good_wTen
  · exact good_named _ h
  · exact good_hex _
theorem words_ten (t : Ten) (h : namedB 16 smallB lowB (L t.name) = true) : words (tenL t) = some [wTen, L t.name, hexOf t.key] := words_join wTen [L t.name, hexOf t.key] (tenL_good t h)
theorem words_cap (n : Nat) : words (capL n) = some [wCap, decDigits n] := words_join wCap [decDigits n] (fun x hx => by
  simp at hx
  rcases hx with rfl | rfl
  · exact good_wCap
  · exact good_dec n)
theorem words_ses (n : Nat) : words (sesL n) = some [wSes, decDigits n] := words_join wSes [decDigits n] (fun x hx => by
  simp at hx
  rcases hx with rfl | rfl
  · exact good_wSes
  · exact good_dec n)
theorem no10_ten (t : Ten) (h : namedB 16 smallB lowB (L t.name) = true) : 10 ∉ tenL t := no10_join [wTen, L t.name, hexOf t.key] (tenL_good t h)
theorem no10_words (l : List UInt8) (ws : List (List UInt8)) (h : words l = some ws) : 10 ∉ l := by
  obtain ⟨h1, h2⟩ := words_back l ws h
  rw [← h1]
  exact no10_join ws h2

/-! ### What a line does -/
theorem head_not (l : List UInt8) (w : List UInt8) (hw : w.head? ≠ some 35) (hn : w ≠ []) (r : List UInt8) (h : l = w ++ r) : ¬ (l = [] ∨ l.head? = some 35) := by
  subst h
  cases w with
  | nil => exact absurd rfl hn
  | cons c w => simpa using hw
theorem take_tenL (st : Rd) (t : Ten) (h : namedB 16 smallB lowB (L t.name) = true) (he : st.evs = []) : takeOf st (tenL t) = some { st with tens := st.tens ++ [t] } := by
  have hb : bytesOf (hexOf t.key) = some t.key := bytesOf_hexOf _
  have r1 : readF 116 (L t.name) = (⟨L t.name, 0, []⟩, 0) := by unfold readF; rw [if_pos rfl, if_pos h]
  have r2 : readF 98 (hexOf t.key) = (⟨[], 0, t.key⟩, 0) := by
    unfold readF
    rw [if_neg (by decide), if_neg (by decide), if_pos rfl, hb]
  unfold takeOf
  rw [if_neg (head_not (tenL t) wTen (by decide) (by decide) _ rfl), words_ten t h]
  rw [if_pos (show first (some [wTen, L t.name, hexOf t.key]) = wTen from rfl)]
  have hc : checkOf (some [wTen, L t.name, hexOf t.key]) wTen [116, 98] = 0 := by
    unfold checkOf
    simp only
    rw [if_neg (by simp)]
    simp [signs, signErr, r1, r2]
  rw [if_neg (by rw [hc, he]; simp)]
  show some _ = _
  simp only [r1, r2, S_L]
theorem take_num (n : Nat) (hn : n ≤ 2147483647) : readF 115 (decDigits n) = (⟨[], n, []⟩, 0) := by
  unfold readF
  rw [if_neg (by decide), if_neg (by decide), if_neg (by decide), if_neg (by decide), if_pos rfl, num_dec n (by omega), if_neg (by simp; omega)]
theorem take_capL (st : Rd) (n : Nat) (hn : n ≤ 2147483647) (he : st.evs = []) : takeOf st (capL n) = some { st with cap := n } := by
  have r1 := take_num n hn
  unfold takeOf
  rw [if_neg (head_not (capL n) wCap (by decide) (by decide) _ rfl), words_cap n]
  rw [if_neg (show first (some [wCap, decDigits n]) ≠ wTen by show wCap ≠ wTen; decide), if_pos (show first (some [wCap, decDigits n]) = wCap from rfl)]
  have hc : checkOf (some [wCap, decDigits n]) wCap [115] = 0 := by
    unfold checkOf
    simp only
    rw [if_neg (by simp)]
    simp [signs, signErr, r1]
  rw [if_neg (by rw [hc, he]; simp)]
  simp only [fieldsOf, List.tail, fields, r1]
theorem take_sesL (st : Rd) (n : Nat) (hn : n ≤ 2147483647) (he : st.evs = []) : takeOf st (sesL n) = some { st with sess := n } := by
  have r1 := take_num n hn
  unfold takeOf
  rw [if_neg (head_not (sesL n) wSes (by decide) (by decide) _ rfl), words_ses n]
  rw [if_neg (show first (some [wSes, decDigits n]) ≠ wTen by show wSes ≠ wTen; decide), if_neg (show first (some [wSes, decDigits n]) ≠ wCap by show wSes ≠ wCap; decide), if_pos (show first (some [wSes, decDigits n]) = wSes from rfl)]
  have hc : checkOf (some [wSes, decDigits n]) wSes [115] = 0 := by
    unfold checkOf
    simp only
    rw [if_neg (by simp)]
    simp [signs, signErr, r1]
  rw [if_neg (by rw [hc, he]; simp)]
  simp only [fieldsOf, List.tail, fields, r1]
theorem word_head : ∀ k : Fin 16, 1 ≤ k.val → (wordN k.val).head? ≠ some 35 ∧ wordN k.val ≠ [] := by decide +kernel
theorem take_evL (st : Rd) (e : Ev) (l : List UInt8) (hp : parseOf l = (e, 0)) : takeOf st l = some { st with evs := st.evs ++ [e] } := by
  have hk : kindOf (first (words l)) ≠ 0 := fun h => by
    unfold parseOf at hp
    rw [if_pos h] at hp
    cases hp
  have hc : checkOf (words l) (wordN (kindOf (first (words l)))) (patN (kindOf (first (words l)))) = 0 := by
    cases hx : checkOf (words l) (wordN (kindOf (first (words l)))) (patN (kindOf (first (words l)))) with
    | zero => rfl
    | succ n =>
      unfold parseOf at hp
      rw [if_neg hk, if_pos (by rw [hx]; simp), hx] at hp
      cases hp
  obtain ⟨xs, hw, _⟩ := check_zero _ _ _ hc
  have hj := (words_back l _ hw).1
  have hle := kindOf_le (first (words l))
  have hwh := word_head ⟨kindOf (first (words l)), by omega⟩ (by show 1 ≤ kindOf (first (words l)); omega)
  have hd : ∃ r, l = wordN (kindOf (first (words l))) ++ r := by
    cases xs with
    | nil => exact ⟨[], by rw [List.append_nil]; exact hj.symm⟩
    | cons x xs => exact ⟨_, hj.symm⟩
  obtain ⟨r, hd⟩ := hd
  have n1 : first (words l) ≠ wTen := fun h => hk (by rw [h]; decide +kernel)
  have n2 : first (words l) ≠ wCap := fun h => hk (by rw [h]; decide +kernel)
  have n3 : first (words l) ≠ wSes := fun h => hk (by rw [h]; decide +kernel)
  unfold takeOf
  rw [if_neg (head_not l _ hwh.1 hwh.2 r hd), if_neg n1, if_neg n2, if_neg n3, hp, if_neg (by simp)]
def wWhat : List UInt8 := [119, 104, 97, 116]
theorem take_what (st : Rd) : takeOf st wWhat = none := by
  have hw : words wWhat = some [wWhat] := by decide +kernel
  have hp : (parseOf wWhat).2 = 5 := by decide +kernel
  unfold takeOf
  rw [hw]
  rw [if_neg (by decide), if_neg (by decide), if_neg (by decide), if_neg (by decide), if_pos (by rw [hp]; decide)]
theorem take_blank (st : Rd) (l : List UInt8) (h : l = [] ∨ l.head? = some 35) : takeOf st l = some st := by
  unfold takeOf
  rw [if_pos h]

/-! ### Lines, one behind the other -/
/-- A line with its end. -/
def lnS (l : List UInt8) : ByteArray := S (l ++ [10])
theorem lineOf_lnS (st : Rd) (l : List UInt8) : lineOf st (lnS l) = takeOf st l := by
  obtain ⟨h1, h2⟩ := ends_iff l
  unfold lineOf lnS
  rw [if_pos h1, h2]
/-- Lines, each with lines behind it. -/
def withB (ls : List (List UInt8)) (bs : List (List UInt8)) : List ByteArray := ls.flatMap fun l => lnS l :: bs.map lnS
theorem fold_blank : ∀ (bs : List (List UInt8)) (st : Rd), (∀ l ∈ bs, l = [] ∨ l.head? = some 35) → foldO (bs.map lnS) st = some st
  | [], st, _ => rfl
  | l :: bs, st, h => by
    simp only [List.map_cons, foldO, lineOf_lnS, take_blank st l (h l (by simp))]
    exact fold_blank bs st (fun x hx => h x (by simp [hx]))
theorem foldO_app : ∀ (xs ys : List ByteArray) (st : Rd), foldO (xs ++ ys) st = match foldO xs st with | none => none | some st' => foldO ys st'
  | [], ys, st => rfl
  | x :: xs, ys, st => by
    simp only [List.cons_append, foldO]
    cases lineOf st x with
    | none => rfl
    | some st' => exact foldO_app xs ys st'
theorem fold_cons (l : List UInt8) (ls bs : List (List UInt8)) (st st' : Rd) (h : takeOf st l = some st') (hb : ∀ l ∈ bs, l = [] ∨ l.head? = some 35) : foldO (withB (l :: ls) bs) st = foldO (withB ls bs) st' := by
  unfold withB
  rw [List.flatMap_cons, List.cons_append]
  simp only [foldO, lineOf_lnS, h]
  rw [foldO_app, fold_blank bs st' hb]
theorem withB_app (a b bs : List (List UInt8)) : withB (a ++ b) bs = withB a bs ++ withB b bs := by simp [withB]
theorem fold_tens (bs : List (List UInt8)) (hb : ∀ l ∈ bs, l = [] ∨ l.head? = some 35) : ∀ (ts : List Ten) (st : Rd), (∀ t ∈ ts, namedB 16 smallB lowB (L t.name) = true) → st.evs = [] → foldO (withB (ts.map tenL) bs) st = some { st with tens := st.tens ++ ts }
  | [], st, _, _ => by simp [withB, foldO]
  | t :: ts, st, h, he => by
    rw [List.map_cons, fold_cons _ _ _ _ _ (take_tenL st t (h t (by simp)) he) hb, fold_tens bs hb ts { st with tens := st.tens ++ [t] } (fun x hx => h x (by simp [hx])) he]
    simp
theorem fold_evs (bs : List (List UInt8)) (hb : ∀ l ∈ bs, l = [] ∨ l.head? = some 35) : ∀ (es : List Ev) (st : Rd), (∀ e ∈ es, Fits e ∧ (printOf e).isSome = true) → foldO (withB (es.map evL) bs) st = some { st with evs := st.evs ++ es }
  | [], st, _ => by simp [withB, foldO]
  | e :: es, st, h => by
    obtain ⟨hf, hp⟩ := h e (by simp)
    obtain ⟨l, hl⟩ := Option.isSome_iff_exists.1 hp
    have hev : evL e = l := by unfold evL; rw [hl]; rfl
    rw [List.map_cons, hev, fold_cons _ _ _ _ _ (take_evL st e l (parse_print e l hf hl)) hb, fold_evs bs hb es _ (fun x hx => h x (by simp [hx]))]
    simp
/-- The lines of a script are read as that script. -/
theorem fold_lines (bs : List (List UInt8)) (hb : ∀ l ∈ bs, l = [] ∨ l.head? = some 35) (ts : List Ten) (cap sess : Nat) (es : List Ev) (ht : ∀ t ∈ ts, namedB 16 smallB lowB (L t.name) = true) (hc : cap ≤ 2147483647) (hs : sess ≤ 2147483647) (he : ∀ e ∈ es, Fits e ∧ (printOf e).isSome = true) :
    foldO (withB (linesL ts cap sess es) bs) rd0 = some ⟨ts, cap, sess, es⟩ := by
  unfold linesL
  rw [withB_app, withB_app, foldO_app, foldO_app, fold_tens bs hb ts rd0 ht rfl]
  simp only
  rw [fold_cons _ _ _ _ _ (take_capL _ cap hc rfl) hb, fold_cons _ _ _ _ _ (take_sesL _ sess hs rfl) hb]
  show (match (some _ : Option Rd) with | none => none | some st' => foldO (withB (es.map evL) bs) st') = _
  simp only
  rw [fold_evs bs hb es _ he]
  simp [rd0]

/-! ### The text of lines -/
theorem lines_text (bs : List (List UInt8)) (hb : ∀ l ∈ bs, 10 ∉ l) : ∀ (ls : List (List UInt8)), (∀ l ∈ ls, 10 ∉ l) → linesOf (ls.flatMap fun l => l ++ 10 :: (bs.flatMap fun b => b ++ [10])) = (withB ls bs).map L
  | [], _ => rfl
  | l :: ls, h => by
    have step : ∀ (cs : List (List UInt8)) (r : List UInt8), (∀ l ∈ cs, 10 ∉ l) → linesOf ((cs.flatMap fun b => b ++ [10]) ++ r) = cs.map (fun b => b ++ [10]) ++ linesOf r := by
      intro cs
      induction cs with
      | nil => intro r _; rfl
      | cons c cs ih =>
        intro r hc
        rw [List.flatMap_cons, List.append_assoc, List.append_assoc]
        show linesOf (c ++ 10 :: ((cs.flatMap fun b => b ++ [10]) ++ r)) = _
        rw [lines_cut c _ (hc c (by simp)), ih r (fun x hx => hc x (by simp [hx]))]
        rfl
    rw [List.flatMap_cons, List.append_assoc, List.cons_append, lines_cut l _ (h l (by simp)), step bs _ hb, lines_text bs hb ls (fun x hx => h x (by simp [hx]))]
    unfold withB
    rw [List.flatMap_cons, List.map_append, List.map_cons, List.map_map]
    rfl
end Go.Proofs.Ytinabbdecmjcpaa.Script

namespace Go.Proofs.Ytinabbdecmjcpaa.Script
open Go.Proofs.Ytinabbdecmjcpaa Go.Proofs.Ytinabbdecmjcpaa.Plain Go.Proofs.Ytinabbdecmjcpaa.Words Go.Proofs.Ytinabbdecmjcpaa.Named Go.Proofs.Ytinabbdecmjcpaa.Hex Go.Proofs.Ytinabbdecmjcpaa.Number Go.Proofs.Ytinabbdecmjcpaa.Ev
set_option linter.unusedVariables false

theorem L_inj {x y : ByteArray} (h : L x = L y) : x = y := by rw [← S_L x, h, S_L]
theorem mapL_inj : ∀ (xs ys : List ByteArray), xs.map L = ys.map L → xs = ys
  | [], [], _ => rfl
  | [], _ :: _, h => by simp at h
  | _ :: _, [], h => by simp at h
  | x :: xs, y :: ys, h => by
    simp only [List.map_cons, List.cons.injEq] at h
    rw [L_inj h.1, mapL_inj xs ys h.2]
theorem mapL_prefix (p xs : List ByteArray) (h : p.map L <+: xs.map L) : p <+: xs := by
  obtain ⟨t, ht⟩ := h
  have h1 : p.map L = (xs.take p.length).map L := by
    rw [List.map_take, ← ht, List.take_left' (by simp)]
  rw [mapL_inj _ _ h1]
  exact List.take_prefix _ _
theorem fold_pre (p r : List ByteArray) (st st' : Rd) (h : foldO (p ++ r) st = some st') : ∃ s1, foldO p st = some s1 ∧ foldO r s1 = some st' := by
  rw [foldO_app] at h
  cases hp : foldO p st with
  | none => rw [hp] at h; cases h
  | some s1 => rw [hp] at h; exact ⟨s1, rfl, h⟩
/-- A text that is a script's errs nowhere. -/
theorem no_err (l : List UInt8) (xs : List ByteArray) (st : Rd) (k : Nat) (hx : xs.map L = linesOf l) (hf : foldO xs rd0 = some st) (hc : checkS st.tens st.cap st.sess = 0) : ¬ ErrAt l k := by
  rintro (⟨p, x, s, hp, _, h1, h2⟩ | ⟨ys, s, hy, h1, h2, _⟩)
  · rw [← hx] at hp
    obtain ⟨r, rfl⟩ := mapL_prefix _ _ hp
    obtain ⟨s1, h3, _⟩ := fold_pre _ _ _ _ hf
    rw [foldO_snoc, h1] at h3
    simp only at h3
    rw [h2] at h3
    cases h3
  · rw [← hx] at hy
    rw [mapL_inj _ _ hy, hf] at h1
    cases h1
    exact h2 hc
/-- Where the first line lies that errs. -/
theorem err_at (l : List UInt8) (p r : List ByteArray) (x : ByteArray) (st : Rd) (hx : (p ++ x :: r).map L = linesOf l) (hf : foldO p rd0 = some st) (hn : lineOf st x = none) : (∀ k, ErrAt l k → k = p.length + 1) ∧ ∀ ys st', ys.map L = linesOf l → foldO ys rd0 ≠ some st' := by
  have hno : foldO (p ++ x :: r) rd0 = none := by
    rw [foldO_app, hf]
    simp only [foldO, hn]
  refine ⟨fun k hk => ?_, fun ys st' hy h => ?_⟩
  · rcases hk with ⟨q, y, s, hp, rfl, h1, h2⟩ | ⟨ys, s, hy, h1, _, _⟩
    · rw [← hx] at hp
      have hq := mapL_prefix _ _ hp
      by_cases hlt : q.length < p.length
      · exfalso
        have hqp : q ++ [y] <+: p := List.prefix_of_prefix_length_le hq (List.prefix_append p (x :: r)) (by simp; omega)
        obtain ⟨t, ht⟩ := hqp
        rw [← ht] at hf
        obtain ⟨s1, h3, _⟩ := fold_pre _ _ _ _ hf
        rw [foldO_snoc, h1] at h3
        simp only at h3
        rw [h2] at h3
        cases h3
      · by_cases hgt : p.length < q.length
        · exfalso
          have hpq : p ++ [x] <+: q := by
            refine List.prefix_of_prefix_length_le (l₃ := p ++ x :: r) ⟨r, by simp⟩ ((List.prefix_append q [y]).trans hq) (by simp; omega)
          obtain ⟨t, ht⟩ := hpq
          rw [← ht] at h1
          obtain ⟨s1, h3, _⟩ := fold_pre _ _ _ _ h1
          rw [foldO_snoc, hf] at h3
          simp only at h3
          rw [hn] at h3
          cases h3
        · omega
    · rw [← hx] at hy
      rw [mapL_inj _ _ hy, hno] at h1
      cases h1
  · rw [← hx] at hy
    rw [mapL_inj _ _ hy, hno] at h
    cases h

/-- Numbers and lengths of an event that was read. -/
structure FitsM (M : Nat) (e : Ev) : Prop where
  fits : Fits e
  tenant : e.tenant.size ≤ M
  data : e.data.length ≤ M
theorem num_lt (w : List UInt8) : (numOf w).2 = 0 → (numOf w).1 < 18446744073709551616 := fun h => (dec_num w (numOf w).1 (by rw [← h])).2
theorem put_fits (M : Nat) : ∀ (ss : List Slot) (xs : List (List UInt8)) (e : Ev), (∀ x ∈ xs, x.length ≤ M) → signs (ss.map sign) xs = 0 → FitsM M e → FitsM M (putF e ss (fields (ss.map sign) xs))
  | [], xs, e, _, _, h => by cases xs <;> exact h
  | s :: ss, [], e, _, _, h => h
  | s :: ss, x :: xs, e, hx, hs, h => by
    rw [List.map_cons] at hs
    obtain ⟨h1, h2⟩ := signs_cons _ _ _ _ hs
    show FitsM M (putF (setF e (readF (sign s) x).1 s) ss (fields (ss.map sign) xs))
    refine put_fits M ss xs _ (fun y hy => hx y (by simp [hy])) h2 ?_
    have hxl := hx x (by simp)
    cases s with
    | session => have := err_s x h1; rw [show sign .session = 115 from rfl, this.1]; exact ⟨⟨by show ((numOf x).1 : Int) ≤ _; omega, h.fits.stream, h.fits.m, h.fits.n, h.fits.bits⟩, h.tenant, h.data⟩
    | stream => have := err_s x h1; rw [show sign .stream = 115 from rfl, this.1]; exact ⟨⟨h.fits.session, by show ((numOf x).1 : Int) ≤ _; omega, h.fits.m, h.fits.n, h.fits.bits⟩, h.tenant, h.data⟩
    | m => have := err_s x h1; rw [show sign .m = 115 from rfl, this.1]; exact ⟨⟨h.fits.session, h.fits.stream, by show ((numOf x).1 : Int) ≤ _; omega, h.fits.n, h.fits.bits⟩, h.tenant, h.data⟩
    | tenant =>
      have := err_t x h1
      rw [show sign .tenant = 116 from rfl, this.1]
      exact ⟨⟨h.fits.session, h.fits.stream, h.fits.m, h.fits.n, h.fits.bits⟩, by show x.toArray.size ≤ M; simpa using hxl, h.data⟩
    | n =>
      have he : (numOf x).2 = 0 := by have := h1; rw [show sign .n = 110 from rfl] at this; unfold signErr at this; rw [err_n] at this; exact this
      rw [show sign .n = 110 from rfl, err_n]
      exact ⟨⟨h.fits.session, h.fits.stream, h.fits.m, num_lt x he, h.fits.bits⟩, h.tenant, h.data⟩
    | bits =>
      have he : (numOf x).2 = 0 := by have := h1; rw [show sign .bits = 110 from rfl] at this; unfold signErr at this; rw [err_n] at this; exact this
      rw [show sign .bits = 110 from rfl, err_n]
      exact ⟨⟨h.fits.session, h.fits.stream, h.fits.m, h.fits.n, num_lt x he⟩, h.tenant, h.data⟩
    | data =>
      obtain ⟨d, h3, h4⟩ := err_b x h1
      rw [show sign .data = 98 from rfl, h3]
      exact ⟨⟨h.fits.session, h.fits.stream, h.fits.m, h.fits.n, h.fits.bits⟩, h.tenant, Nat.le_trans (data_len x d h4) hxl⟩
theorem parse_fits (l : List UInt8) (e : Ev) (h : parseOf l = (e, 0)) : FitsM l.length e := by
  unfold parseOf at h
  split at h
  · cases h
  · split at h
    · rename_i hc; exact absurd (congrArg Prod.snd h) hc
    · rename_i hc
      have he := (congrArg Prod.fst h).symm
      simp only at he
      have hc0 : checkOf (words l) (wordN (kindOf (first (words l)))) (patN (kindOf (first (words l)))) = 0 := by simpa using hc
      obtain ⟨xs, hw, hl, hsg⟩ := check_zero _ _ _ hc0
      generalize kindOf (first (words l)) = k at *
      have hf : fieldsOf (words l) (patN k) = fields (patN k) xs := by rw [hw]; rfl
      rw [hf] at he
      rw [he]
      have hj := (words_back l _ hw).1
      refine put_fits l.length (slotsN k) xs (ev0 k) (fun x hx => ?_) hsg ⟨⟨by show (0 : Int) ≤ _; decide, by show (0 : Int) ≤ _; decide, by show (0 : Int) ≤ _; decide, by show 0 < _; decide, by show 0 < _; decide⟩, Nat.zero_le _, Nat.zero_le _⟩
      have := join_len (wordN k :: xs) x (by simp [hx])
      rw [hj] at this
      exact this
theorem fine_ok (M : Nat) (hM : M ≤ 1000000) (st : Rd) (h : Fine M st) : ∀ e ∈ st.evs, EvOk e ∧ (printOf e).isSome = true := fun e he => by
  obtain ⟨l, hp, hl⟩ := h.ev e he
  have hf := parse_fits l e hp
  refine ⟨⟨hf.fits, by have := hf.tenant; omega, by have := hf.data; omega⟩, ?_⟩
  rw [print_parse l e hp]
  rfl
end Go.Proofs.Ytinabbdecmjcpaa.Script

namespace Go.Proofs.Ytinabbdecmjcpaa.Script
open Go.RowKit Go.Deep Go.Proofs.Ytinabbdecmjcpaa Go.Proofs.Ytinabbdecmjcpaa.Plain Go.Proofs.Ytinabbdecmjcpaa.Words Go.Proofs.Ytinabbdecmjcpaa.Named Go.Proofs.Ytinabbdecmjcpaa.Hex Go.Proofs.Ytinabbdecmjcpaa.Number Go.Proofs.Ytinabbdecmjcpaa.Queue Go.Proofs.Ytinabbdecmjcpaa.Line Go.Proofs.Ytinabbdecmjcpaa.Ev
set_option linter.unusedVariables false

def lgAux : Nat → List Ev → Bool
  | _, [] => false
  | n, e :: es => if 100 < e.tenant.size ∨ 5000 < n + e.data.length then true else lgAux (n + e.data.length) es
def largeB (es : List Ev) : Bool := lgAux 0 (es.take 250) || decide (250 < es.length)
theorem lgAux_small : ∀ (es : List Ev) (n : Nat), lgAux n es = false → n ≤ 5000 → ∀ e ∈ es, e.tenant.size ≤ 100 ∧ e.data.length ≤ 5000
  | [], n, _, _, e, he => by cases he
  | f :: es, n, h, hn, e, he => by
    unfold lgAux at h
    split at h
    · cases h
    · rename_i hc
      rcases List.mem_cons.1 he with rfl | he
      · omega
      · exact lgAux_small es _ h (by omega) e he
theorem large_small (es : List Ev) (h : largeB es = false) : es.length ≤ 250 ∧ ∀ e ∈ es, e.tenant.size ≤ 100 ∧ e.data.length ≤ 5000 := by
  unfold largeB at h
  rw [Bool.or_eq_false_iff] at h
  have hl : es.length ≤ 250 := by have := of_decide_eq_false h.2; omega
  refine ⟨hl, ?_⟩
  have h1 := h.1
  rw [List.take_of_length_le hl] at h1
  exact lgAux_small es 0 h1 (by omega)
theorem erow_form {w : World} {v : Value} {es : List Ev} (h : ERow w v es) : ∃ a cap, v = .slice a es.length cap := by
  rcases h with ⟨rfl, a, cap, rfl⟩ | ⟨g, o, cap, rfl, _⟩
  · exact ⟨_, _, rfl⟩
  · exact ⟨_, _, rfl⟩
theorem erow_at {w : World} {a : Option Addr} {n cap : Nat} {es : List Ev} (h : ERow w (.slice a n cap) es) (hl : 0 < es.length) : ∃ g o, a = some ⟨g, o, none⟩ ∧ ∀ (i : Nat) (e : Ev), es[i]? = some e → EvIn w g o i e := by
  rcases h with ⟨rfl, _⟩ | ⟨g, o, cap', e, h⟩
  · simp at hl
  · cases e
    exact ⟨g, o, rfl, h⟩
set_option maxRecDepth 100000 in
set_option maxHeartbeats 4000000 in
theorem large41 (es : List Ev) (v : Value) (w : World) (h : ERow w v es) (hn : es.length ≤ 1000000000000000) (hs : ∀ e ∈ es, e.tenant.size ≤ 1000000000000000 ∧ e.data.length ≤ 1000000000000000) :
    Calls Try.prog 41 #[v] w fun e w' => e = .returned (.bool (largeB es)) ∧ w = w' := by
  obtain ⟨a, cap, rfl⟩ := erow_form h
  have H := Lib.hid h
  have HS := Lib.hid hs
  clear h hs
  obtain ⟨R, hR⟩ : ∃ R, R = largeB es := ⟨_, rfl⟩
  rw [← hR]
  have HR : Hid (R = (lgAux 0 ((es.take 250).drop 0) || decide (250 < es.length))) := Lib.hid hR
  obtain ⟨n, hN⟩ : ∃ n, n = es.length := ⟨_, rfl⟩
  rw [← hN] at hn H HR ⊢
  have HN := Lib.hid hN
  clear hR hN
  go_enter Try.func41, Try.ntmps41
  go_wp2
  go_loop [3, 4] (fun u v => ∃ k m : Nat, k ≤ n ∧ k ≤ 250 ∧ m ≤ 5000 ∧ v = .int .i64 (k : Int) ∧ u = .int .i64 (m : Int) ∧ Hid (R = (lgAux m ((es.take 250).drop k) || decide (250 < n)))) (fun _ v => n - (intOf v).toNat)
  case atStart => exact ⟨0, 0, by omega, by omega, by omega, rfl, rfl, HR⟩
  case round =>
    obtain ⟨k, m, hk, hk2, hm, rfl, rfl, hr⟩ := hrel
    by_cases hlt : k < n
    · by_cases h250 : k < 250
      · have hl : k < es.length := by have := HN.out; omega
        obtain ⟨g, o, rfl, hev⟩ := erow_at H.out (by omega)
        obtain ⟨dv, _, _, _, c3, _, _, _, c7, hcr⟩ := hev k es[k] (List.getElem?_eq_getElem hl)
        obtain ⟨a1, cc, rfl⟩ := crow_form hcr
        have hsz := HS.out es[k] (List.getElem_mem hl)
        have hd : (es.take 250).drop k = es[k] :: (es.take 250).drop (k + 1) := by
          rw [List.drop_eq_getElem_cons (by simp; omega), List.getElem_take]
        have hst := hr.out
        rw [hd, lgAux] at hst
        have HST := Lib.hid hst
        clear hd hst hev hcr hr
        generalize hx : es[k].tenant = x at *
        generalize hy : es[k].data.length = y at *
        clear hx hy
        have wk : IntKind.i64.wrap ((k : Int) + 1) = (k : Int) + 1 := IntWalk.i64_in _ (by omega)
        have wm : IntKind.i64.wrap ((m : Int) + (y : Int)) = (m : Int) + (y : Int) := IntWalk.i64_in _ (by omega)
        by_cases h1 : 100 < x.size
        · have t1 : decide ((100 : Int) < (x.size : Int)) = true := decide_eq_true (by omega)
          have hv : R = true := by rw [HST.out, if_pos (.inl h1)]; rfl
          have HV := Lib.hid hv
          clear hv
          go_wp2
          go_ret
          exact ⟨by rw [HV.out]; rfl, rfl⟩
        · have t1 : decide ((100 : Int) < (x.size : Int)) = false := decide_eq_false (by omega)
          by_cases h2 : 5000 < m + y
          · have t2 : decide ((5000 : Int) < (m : Int) + (y : Int)) = true := decide_eq_true (by omega)
            have hv : R = true := by rw [HST.out, if_pos (.inr h2)]; rfl
            have HV := Lib.hid hv
            clear hv
            go_wp2
            go_ret
            exact ⟨by rw [HV.out]; rfl, rfl⟩
          · have t2 : decide ((5000 : Int) < (m : Int) + (y : Int)) = false := decide_eq_false (by omega)
            have hv : R = (lgAux (m + y) ((es.take 250).drop (k + 1)) || decide (250 < n)) := by rw [HST.out, if_neg (by omega)]
            have HV := Lib.hid hv
            clear hv
            go_wp2
            go_round
            case rel => exact ⟨k + 1, m + y, by omega, by omega, by omega, by go_num, by go_num, HV⟩
            case measure => simp [intOf]; omega
      · have t2 : decide ((k : Int) < 250) = false := decide_eq_false (by omega)
        have hk3 : k = 250 := by omega
        subst hk3
        have tn : decide ((250 : Int) < (n : Int)) = true := decide_eq_true (by omega)
        have hv : R = true := by rw [hr.out, decide_eq_true (show 250 < n from hlt)]; simp
        have HV := Lib.hid hv
        clear hv hr
        go_wp2
        go_ret
        exact ⟨by rw [HV.out]; rfl, rfl⟩
    · have hv : R = false := by
        have := HN.out
        rw [hr.out, decide_eq_false (by omega), List.drop_eq_nil_of_le (by simp; omega)]
        rfl
      have tn : decide ((250 : Int) < (n : Int)) = false := decide_eq_false (by omega)
      have HV := Lib.hid hv
      clear hv hr
      go_wp2
      go_ret
      exact ⟨by rw [HV.out]; rfl, rfl⟩
end Go.Proofs.Ytinabbdecmjcpaa.Script
