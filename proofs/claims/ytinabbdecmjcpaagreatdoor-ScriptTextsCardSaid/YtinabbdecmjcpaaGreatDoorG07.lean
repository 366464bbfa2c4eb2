/- Contracts of line.Word, known, read, of the sample of line.Read, and of the law's awake of layer 8. Contracts of line.known and line.read: the field that a word says by a sign. The contract of line.Read, of a pattern whose signs are known: the fields of a line that fits, or what is wrong with it. -/
import Derived.Test.YtinabbdecmjcpaaGreatDoorG01
import Derived.Test.YtinabbdecmjcpaaGreatDoorG03
import Derived.Test.YtinabbdecmjcpaaGreatDoorG02
import Derived.Test.YtinabbdecmjcpaaGreatDoorG05
namespace Go.Proofs.YtinabbdecmjcpaaGreatDoor.Line
open Go.RowKit Go.Proofs.YtinabbdecmjcpaaGreatDoor Go.Proofs.YtinabbdecmjcpaaGreatDoor.Hex Go.Proofs.YtinabbdecmjcpaaGreatDoor.Plain Go.Proofs.YtinabbdecmjcpaaGreatDoor.Words Go.Proofs.YtinabbdecmjcpaaGreatDoor.Named Go.Proofs.YtinabbdecmjcpaaGreatDoor.Number
set_option linter.unusedVariables false

/-- The first word. -/
def firstOf : Option (List (List UInt8)) → List UInt8
  | some (a :: _) => a
  | _ => []

/-- line.Word, of any line. -/
theorem word_any (s : ByteArray) (w : World) (hs : s.size ≤ 1000000000000) :
    Calls Tryz.prog 46 #[.string s] w fun e w' => e = .returned (.string (S (firstOf (words (L s))))) ∧ Below w.heap.size w w' := by
  have h1 := Lib.hid (words_any s w hs)
  generalize words (L s) = R at *
  go_enter Tryz.func46, Tryz.ntmps46
  go_wp2_with fail
  refine h1.out.mono ?_
  rintro e w1 ⟨v, n, rfl, hb1, hc1⟩
  rcases hc1 with ⟨rfl, rfl, rfl⟩ | ⟨ws, rfl, rfl, hst⟩
  · go_wp2
    go_ret
    exact ⟨rfl, hb1⟩
  · rcases strs_row hst with ⟨rfl, a, cap, rfl⟩ | ⟨g, o, cap, rfl, hg, hc⟩
    · clear hst
      go_wp2
      go_ret
      exact ⟨rfl, hb1⟩
    · clear hst
      cases ws with
      | nil =>
        simp only [List.length_nil]
        go_wp2
        go_ret
        exact ⟨rfl, hb1⟩
      | cons x l =>
        have c0 : w1.cell? ⟨g, o, none⟩ = some (.string (S x)) := hc 0 (by simp)
        clear hc
        have hpos : 0 < (x :: l).length := by simp
        have hx : S (firstOf (some (x :: l))) = S x := rfl
        generalize (x :: l).length = m at *
        have hne : ((m : Int) == 0) = false := by rw [beq_eq_false_iff_ne]; omega
        generalize hy : S x = y at *
        clear hx
        go_wp2
        go_ret
        exact ⟨by rw [← hy]; rfl, hb1⟩

/-- A field of a line that lies in new memory, behind a call. -/
theorem fresh3 (w w2 : World) (a b c : Value) (t : TypeId) (hb : Below (w.alloc (.cells #[a, b, c] t)).heap.size (w.alloc (.cells #[a, b, c] t)) w2) :
    (w2.cell? ⟨w.heap.size, 0, none⟩ = some a ∧ w2.cell? ⟨w.heap.size, 1, none⟩ = some b ∧ w2.cell? ⟨w.heap.size, 2, none⟩ = some c) ∧
    (w2.frozen? ⟨w.heap.size, 0, none⟩ = false ∧ w2.frozen? ⟨w.heap.size, 1, none⟩ = false ∧ w2.frozen? ⟨w.heap.size, 2, none⟩ = false) := by
  have hl : w.heap.size < (w.alloc (.cells #[a, b, c] t)).heap.size := by simp
  exact ⟨⟨(hb.cell (p := ⟨w.heap.size, 0, none⟩) hl).trans (World.cell?_alloc_at _ _ _ _ rfl), (hb.cell (p := ⟨w.heap.size, 1, none⟩) hl).trans (World.cell?_alloc_at _ _ _ _ rfl), (hb.cell (p := ⟨w.heap.size, 2, none⟩) hl).trans (World.cell?_alloc_at _ _ _ _ rfl)⟩,
    ⟨(hb.frozen (p := ⟨w.heap.size, 0, none⟩) hl).trans (World.frozen?_alloc_at _ _ _ _ rfl), (hb.frozen (p := ⟨w.heap.size, 1, none⟩) hl).trans (World.frozen?_alloc_at _ _ _ _ rfl), (hb.frozen (p := ⟨w.heap.size, 2, none⟩) hl).trans (World.frozen?_alloc_at _ _ _ _ rfl)⟩⟩

theorem known_t (w : World) : Calls Tryz.prog 34 #[.int .i32 116] w fun e w' => e = .returned (.bool true) ∧ w = w' := by
  go_enter Tryz.func34, Tryz.ntmps34
  go_wp2
  go_ret
  exact ⟨rfl, rfl⟩
theorem known_n (w : World) : Calls Tryz.prog 34 #[.int .i32 110] w fun e w' => e = .returned (.bool true) ∧ w = w' := by
  go_enter Tryz.func34, Tryz.ntmps34
  go_wp2
  go_ret
  exact ⟨rfl, rfl⟩

theorem read_t (w : World) : Calls Tryz.prog 55 #[.int .i32 116, .string ⟨#[97, 99, 109, 101]⟩] w fun e w' => e = .returned (.tuple #[.agg #[.string ⟨#[97, 99, 109, 101]⟩, .int .u64 0, .slice none 0 0], .int .i64 0]) ∧ Below w.heap.size w w' := by
  have h2 := Lib.hid (fun W => tenant_any ⟨#[97, 99, 109, 101]⟩ W (by decide))
  go_enter Tryz.func55, Tryz.ntmps55
  go_wp2_with fail
  refine (h2.out _).mono ?_
  rintro e w2 ⟨rfl, hb2⟩
  rw [show namedB 16 smallB lowB (L ⟨#[97, 99, 109, 101]⟩) = true by decide]
  obtain ⟨⟨c0, c1, c2⟩, f0, f1, f2⟩ := fresh3 _ _ _ _ _ _ hb2
  go_wp2
  refine bodyPost_ret (v := .tuple #[.agg #[.string ⟨#[97, 99, 109, 101]⟩, .int .u64 0, .slice none 0 0], .int .i64 0]) (by simp [results, Tryz.results55, go_sem, c0, c1, c2]) rfl ⟨rfl, ?_⟩
  exact ((((((Below.refl _ _).alloc (Nat.le_refl _) _).trans (hb2.mono (by simp))).setCell (Nat.le_refl _) _).setCell (Nat.le_refl _) _).setCell (Nat.le_refl _) _)
theorem read_n (w : World) : Calls Tryz.prog 55 #[.int .i32 110, .string ⟨#[49, 48, 48]⟩] w fun e w' => e = .returned (.tuple #[.agg #[.string ⟨#[]⟩, .int .u64 100, .slice none 0 0], .int .i64 0]) ∧ Below w.heap.size w w' := by
  have h2 := Lib.hid (fun W => number_any ⟨#[49, 48, 48]⟩ W (by decide))
  go_enter Tryz.func55, Tryz.ntmps55
  go_wp2_with fail
  refine (h2.out _).mono ?_
  rintro e w2 ⟨rfl, hb2⟩
  rw [show numOf (L ⟨#[49, 48, 48]⟩) = (100, 0) by decide]
  obtain ⟨⟨c0, c1, c2⟩, f0, f1, f2⟩ := fresh3 _ _ _ _ _ _ hb2
  go_wp2
  refine bodyPost_ret (v := .tuple #[.agg #[.string ⟨#[]⟩, .int .u64 100, .slice none 0 0], .int .i64 0]) (by simp [results, Tryz.results55, go_sem, c0, c1, c2]) rfl ⟨rfl, ?_⟩
  exact ((((((Below.refl _ _).alloc (Nat.le_refl _) _).trans (hb2.mono (by simp))).setCell (Nat.le_refl _) _).setCell (Nat.le_refl _) _).setCell (Nat.le_refl _) _)

theorem own_block {w w' : World} {B e z n G cap : Nat} {xs : List Value} (h : w.ownsRow B e z (.slice (some ⟨G, 0, none⟩) n cap) n xs) (hb : w'.heap[G]? = w.heap[G]?) : w'.ownsRow B e z (.slice (some ⟨G, 0, none⟩) n cap) n xs := by
  obtain ⟨h1, h2⟩ := h
  refine ⟨h1, ?_⟩
  rcases h2 with ⟨h2, _⟩ | ⟨g, c, cur, a, b, d, r⟩
  · cases h2
  · cases a
    exact .inr ⟨_, _, cur, rfl, b, by rw [hb]; exact d, r⟩
theorem own_lt {w : World} {B e z n G cap : Nat} {xs : List Value} (h : w.ownsRow B e z (.slice (some ⟨G, 0, none⟩) n cap) n xs) : G < w.heap.size := by
  rcases h.2 with ⟨h2, _⟩ | ⟨g, c, cur, a, b, d, r⟩
  · cases h2
  · cases a
    exact lt_of_block d

theorem info94 : (Tryz.prog.info? 59).map (fun i => (i.zero, i.size, i.bytes)) = some (some (.agg #[.string ⟨#[]⟩, .int .u64 0, .slice none 0 0]), 3, 48) := by kernel_rfl

def fieldsAt : Nat → List Value
  | 0 => []
  | 1 => [.string ⟨#[97, 99, 109, 101]⟩, .int .u64 0, .slice none 0 0]
  | _ => [.string ⟨#[97, 99, 109, 101]⟩, .int .u64 0, .slice none 0 0, .string ⟨#[]⟩, .int .u64 100, .slice none 0 0]

/-- One letter more, beside a row in another block. -/
theorem next_at {P : Program} {w wr : World} {s : ByteArray} {pos B K : Nat} (hp : pos < s.size) (hit : wr.heap[K]? = some (.stringIter s pos)) (hbel : Below B w wr) (hK : B ≤ K) (ha : (s[pos]'hp).toNat < 128) :
    ∃ W1 : World, (∀ ty, (Instr.next (.pointer (some ⟨K, 0, none⟩)) true ty).run P wr = .ok (.tuple #[.bool true, .int .i64 pos, .int .i32 (s[pos]'hp).toNat]) W1) ∧ W1.heap[K]? = some (.stringIter s (pos + 1)) ∧ Below B w W1 ∧ ∀ g, g ≠ K → W1.heap[g]? = wr.heap[g]? := by
  have e := decode_ascii s pos hp ha
  have h := fun ty => Lib.run_next_any_at (P := P) wr K s pos ty hit hp
  have h2 := Lib.iterAt_heap wr K s pos (pos + (Utf8.decode s pos).2) hit
  rw [e] at h2
  simp only [e] at h
  exact ⟨_, h, h2, Lib.below_iterAt hbel hK s _, fun g hg => Lib.iterAt_other _ _ _ _ _ hg⟩

/-- A field put behind the others. -/
theorem put_block {w3 : World} {o o' : Obj} {G : Nat} (hG : G < w3.heap.size) : (((w3.alloc o).alloc o').heap[G]?) = w3.heap[G]? :=
  Below.block (((Below.refl w3.heap.size w3).alloc (Nat.le_refl _) o).alloc (by simp) o') G hG
theorem put_below {B : Nat} {w w3 : World} {o o' : Obj} (hb : Below B w w3) (hB : B ≤ w3.heap.size) : Below B w ((w3.alloc o).alloc o') := (hb.alloc hB o).alloc (by simp; omega) o'
theorem new3 (X : World) (K : Nat) (a b c : Value) (t : TypeId) (hK : K = X.heap.size) : ∀ j u, [a, b, c][j]? = some u → (X.alloc (.cells #[a, b, c] t)).cell? (Addr.add ⟨K, 0, none⟩ j) = some u := by
  intro j u h
  subst hK
  rw [addr_add, Nat.zero_add]
  rw [World.cell?_alloc_at _ _ _ _ rfl]
  simpa using h

set_option maxRecDepth 100000 in
set_option maxHeartbeats 1000000 in
theorem read_sample (w : World) : Calls Tryz.prog 36 #[.string ⟨#[99, 97, 112, 32, 97, 99, 109, 101, 32, 49, 48, 48]⟩, .string ⟨#[99, 97, 112]⟩, .string ⟨#[116, 110]⟩] w fun e w' =>
    ∃ g, e = .returned (.tuple #[.slice (some ⟨g, 0, none⟩) 2 2, .int .i64 0]) ∧ g < w'.heap.size ∧ w'.cell? ⟨g, 0, none⟩ = some (.string ⟨#[97, 99, 109, 101]⟩) ∧ w'.cell? ⟨g, 4, none⟩ = some (.int .u64 100) ∧ Below w.heap.size w w' := by
  obtain ⟨i0, hi, hz0, hz1, hz2⟩ := info_parts info94
  have h1 := Lib.hid (fun W => words_any ⟨#[99, 97, 112, 32, 97, 99, 109, 101, 32, 49, 48, 48]⟩ W (by decide))
  have hwords : words (L ⟨#[99, 97, 112, 32, 97, 99, 109, 101, 32, 49, 48, 48]⟩) = some [[99, 97, 112], [97, 99, 109, 101], [49, 48, 48]] := by decide
  have HW := Lib.hid hwords
  clear hwords
  go_enter Tryz.func36, Tryz.ntmps36
  go_wp2
  go_loopw [] (fun wr => ∃ pos : Nat, pos ≤ 2 ∧ wr.heap[w.heap.size]? = some (.stringIter ⟨#[116, 110]⟩ pos) ∧ Below w.heap.size w wr) (fun wr => 2 - wr.iterPos w.heap.size)
  case atStart => exact ⟨0, by omega, World.iter_heap w _ 0, (Below.refl _ _).alloc (Nat.le_refl _) _⟩
  case round =>
    obtain ⟨pos, hps, hit, hbel⟩ := hrel
    have hpos0 := iterPos_of hit
    by_cases hp : pos < 2
    · obtain ⟨r, k, W1, hnx, hit2, hbel2, hr1, hc⟩ := next_name (P := Tryz.prog) (s := ⟨#[116, 110]⟩) hp hit hbel
      have hk : pos = 0 ∨ pos = 1 := by omega
      rcases hk with rfl | rfl
      · obtain ⟨rfl, rfl⟩ : r = 116 ∧ k = 1 := by
          rcases hc with h | ⟨_, h⟩
          · exact h
          · exact absurd h (by decide +revert)
        clear hc
        go_wp2_with (go_at_call 34; refine (known_t _).mono ?_; rintro e w' ⟨rfl, rfl⟩)
        go_roundw
        case rel => exact ⟨1, by omega, hit2, hbel2⟩
        case measure => rw [iterPos_of hit2, hpos0]; omega
      · obtain ⟨rfl, rfl⟩ : r = 110 ∧ k = 1 := by
          rcases hc with h | ⟨_, h⟩
          · exact h
          · exact absurd h (by decide +revert)
        clear hc
        go_wp2_with (go_at_call 34; refine (known_n _).mono ?_; rintro e w' ⟨rfl, rfl⟩)
        go_roundw
        case rel => exact ⟨2, by omega, hit2, hbel2⟩
        case measure => rw [iterPos_of hit2, hpos0]; omega
    · have hnx : ∀ ty, (Instr.next (.pointer (some ⟨w.heap.size, 0, none⟩)) true ty).run Tryz.prog wr = _ := fun ty => Lib.run_next_end_at wr w.heap.size ⟨#[116, 110]⟩ pos ty hit hp
      clear hit hpos0
      go_wp2_with fail
      refine (h1.out _).mono ?_
      rintro e w1 ⟨v, n, rfl, hb1, hc1⟩
      rcases hc1 with ⟨r1, _⟩ | ⟨ws, r1, rfl, hst⟩
      · rw [HW.out] at r1; cases r1
      · rw [HW.out] at r1
        cases r1
        rcases strs_row hst with ⟨h, _⟩ | ⟨g, o, cap, rfl, hg, hc⟩
        · cases h
        · have d0 : w1.cell? ⟨g, o, none⟩ = some (.string ⟨#[99, 97, 112]⟩) := hc 0 (by decide)
          have d1 : w1.cell? ⟨g, o + 1, none⟩ = some (.string ⟨#[97, 99, 109, 101]⟩) := hc 1 (by decide)
          have d2 : w1.cell? ⟨g, o + 2, none⟩ = some (.string ⟨#[49, 48, 48]⟩) := hc 2 (by decide)
          clear hc hst
          simp only [List.length_cons, List.length_nil]
          have hB1 : Below w.heap.size w w1 := hbel.trans (hb1.mono hbel.size)
          clear hbel hb1 hnx
          go_wp2_with (at_make; refine wpList_make_own _ rfl _ _ 60 rfl w1.heap.size 59 i0 _ 3 Tryz.underlying60 hi hz0 hz1 .i64 .i64 2 2 rfl rfl (by rfl) (by rw [hz2]; omega) (by unfold maxLen; omega) (Nat.le_refl _) ?_; intro w2 hown2 hgrow2)
          have hb2 : Below w1.heap.size w1 w2 := (Below.refl _ _).grown hgrow2 (Nat.le_refl _) (fun k hk => by cases hk)
          have hG := own_lt hown2
          go_loopw [12] (fun v wr => ∃ pos : Nat, pos ≤ 2 ∧ v = .slice (some ⟨w1.heap.size, 0, none⟩) pos 2 ∧ wr.heap[w2.heap.size]? = some (.stringIter ⟨#[116, 110]⟩ pos) ∧ Below w1.heap.size w1 wr ∧ wr.ownsRow w1.heap.size 59 3 (.slice (some ⟨w1.heap.size, 0, none⟩) pos 2) pos (fieldsAt pos)) (fun _ wr => 2 - wr.iterPos w2.heap.size)
          case atStart => exact ⟨0, by omega, rfl, World.iter_heap w2 _ 0, hb2.alloc hb2.size _, World.ownsRow.alloc hown2 _⟩
          case round =>
            obtain ⟨pos, hps, rfl, hit, hbel, hown⟩ := hrel
            have hpos0 := iterPos_of hit
            by_cases hp : pos < 2
            · have hG2 := own_lt hown
              have hk : pos = 0 ∨ pos = 1 := by omega
              rcases hk with rfl | rfl
              · obtain ⟨W1, hnx0, hit2, hbel2, hoth⟩ := next_at (P := Tryz.prog) (s := ⟨#[116, 110]⟩) hp hit hbel hb2.size (by decide +revert)
                have hnx : ∀ ty, (Instr.next (.pointer (some ⟨w2.heap.size, 0, none⟩)) true ty).run Tryz.prog wr = .ok (.tuple #[.bool true, .int .i64 0, .int .i32 116]) W1 := hnx0
                have hownW := own_block hown (hoth w1.heap.size (by omega))
                have d1' := (hbel2.cell (p := ⟨g, o + 1, none⟩) hg).trans d1
                have hKl := lt_of_block hit2
                have HO := Lib.hid hownW
                have HB2 := Lib.hid hbel2
                clear hnx0 hoth hit hbel hown hownW hbel2
                have hs2 := HB2.out.size
                go_wp2_with (first | (go_at_call 55; refine (read_t _).mono ?_; rintro e w3 ⟨rfl, hb3⟩; have hs3 := hb3.size; have hb3' := Lib.hid hb3; clear hb3) | (at_builtin; go_loud (refine wpList_append_fits _ rfl _ _ 60 rfl w1.heap.size 59 i0 3 Tryz.underlying60 hi hz1 w1.heap.size 0 2 (fieldsAt 0) rfl (own_block HO.out ((put_block (by omega)).trans (hb3'.out.block _ (by omega)))) ⟨_, 0, none⟩ 1 1 [.string ⟨#[97, 99, 109, 101]⟩, .int .u64 0, .slice none 0 0] rfl rfl (new3 _ _ _ _ _ _ (by simp)) (fun x hx => by simp at hx; rcases hx with rfl | rfl | rfl <;> rfl) (by omega) ?_; intro w4 hown4 hgrow4)))
                have hit4 : w4.heap[w2.heap.size]? = some (.stringIter ⟨#[116, 110]⟩ (0 + 1)) := by
                  rw [hgrow4.block _ (by simp; omega) (by intro e; have := Option.some.inj e; omega), put_block (by omega), hb3'.out.block _ (by omega)]
                  exact hit2
                go_roundw
                case rel => exact ⟨0 + 1, by omega, rfl, hit4, (put_below (HB2.out.trans (hb3'.out.mono HB2.out.size)) (by omega)).grown hgrow4 (by simp; omega) (fun k hk => by cases hk; omega), hown4⟩
                case measure => rw [iterPos_of hit4, hpos0]; omega
              · obtain ⟨W1, hnx0, hit2, hbel2, hoth⟩ := next_at (P := Tryz.prog) (s := ⟨#[116, 110]⟩) hp hit hbel hb2.size (by decide +revert)
                have hnx : ∀ ty, (Instr.next (.pointer (some ⟨w2.heap.size, 0, none⟩)) true ty).run Tryz.prog wr = .ok (.tuple #[.bool true, .int .i64 1, .int .i32 110]) W1 := hnx0
                have hownW := own_block hown (hoth w1.heap.size (by omega))
                have d2' := (hbel2.cell (p := ⟨g, o + 2, none⟩) hg).trans d2
                have hKl := lt_of_block hit2
                have hs2 := hbel2.size
                have HO := Lib.hid hownW
                have HB2 := Lib.hid hbel2
                clear hnx0 hoth hit hbel hown hownW hbel2
                go_wp2_with (first | (go_at_call 55; refine (read_n _).mono ?_; rintro e w3 ⟨rfl, hb3⟩; have hs3 := hb3.size; have hb3' := Lib.hid hb3; clear hb3) | (at_builtin; go_loud (refine wpList_append_fits _ rfl _ _ 60 rfl w1.heap.size 59 i0 3 Tryz.underlying60 hi hz1 w1.heap.size 1 2 (fieldsAt 1) rfl (own_block HO.out ((put_block (by omega)).trans (hb3'.out.block _ (by omega)))) ⟨_, 0, none⟩ 1 1 [.string ⟨#[]⟩, .int .u64 100, .slice none 0 0] rfl rfl (new3 _ _ _ _ _ _ (by simp)) (fun x hx => by simp at hx; rcases hx with rfl | rfl | rfl <;> rfl) (by omega) ?_; intro w4 hown4 hgrow4)))
                have hit4 : w4.heap[w2.heap.size]? = some (.stringIter ⟨#[116, 110]⟩ (1 + 1)) := by
                  rw [hgrow4.block _ (by simp; omega) (by intro e; have := Option.some.inj e; omega), put_block (by omega), hb3'.out.block _ (by omega)]
                  exact hit2
                go_roundw
                case rel => exact ⟨1 + 1, by omega, rfl, hit4, (put_below (HB2.out.trans (hb3'.out.mono HB2.out.size)) (by omega)).grown hgrow4 (by simp; omega) (fun k hk => by cases hk; omega), hown4⟩
                case measure => rw [iterPos_of hit4, hpos0]; omega
            · obtain rfl : pos = 2 := by omega
              have hnx : ∀ ty, (Instr.next (.pointer (some ⟨w2.heap.size, 0, none⟩)) true ty).run Tryz.prog wr = _ := fun ty => Lib.run_next_end_at wr w2.heap.size ⟨#[116, 110]⟩ 2 ty hit hp
              have hgl := own_lt hown
              have e0 := World.ownsRow.cellAt hown 0 (by decide)
              have e1 := World.ownsRow.cellAt hown 4 (by decide)
              go_wp2_with fail
              go_ret2
              exact ⟨_, rfl, hgl, e0, e1, hB1.trans (hbel.mono hB1.size)⟩

end Go.Proofs.YtinabbdecmjcpaaGreatDoor.Line

namespace Go.Proofs.YtinabbdecmjcpaaGreatDoor.Ev
open Go.RowKit Go.Proofs.YtinabbdecmjcpaaGreatDoor Go.Proofs.YtinabbdecmjcpaaGreatDoor.Plain Go.Proofs.YtinabbdecmjcpaaGreatDoor.Words Go.Proofs.YtinabbdecmjcpaaGreatDoor.Named Go.Proofs.YtinabbdecmjcpaaGreatDoor.Hex Go.Proofs.YtinabbdecmjcpaaGreatDoor.Number Go.Proofs.YtinabbdecmjcpaaGreatDoor.Line Go.Proofs.YtinabbdecmjcpaaGreatDoor.Queue
set_option linter.unusedVariables false

/-- Which of the five signs it is. -/
theorem known5 {c : UInt8} (h : known c = true) : c = 116 ∨ c = 104 ∨ c = 110 ∨ c = 98 ∨ c = 115 := by
  unfold known at h
  simp only [Bool.or_eq_true, beq_iff_eq] at h
  rcases h with (((h | h) | h) | h) | h
  · exact .inl h
  · exact .inr (.inl h)
  · exact .inr (.inr (.inl h))
  · exact .inr (.inr (.inr (.inl h)))
  · exact .inr (.inr (.inr (.inr h)))
theorem known_yes (c : UInt8) (w : World) (h : known c = true) : Calls Tryz.prog 34 #[.int .i32 (c.toNat : Int)] w fun e w' => e = .returned (.bool true) ∧ w = w' := by
  rcases known5 h with rfl | rfl | rfl | rfl | rfl
  · show Calls Tryz.prog 34 #[.int .i32 116] w _
    go_enter Tryz.func34, Tryz.ntmps34
    go_wp2
    go_ret
    exact ⟨rfl, rfl⟩
  · show Calls Tryz.prog 34 #[.int .i32 104] w _
    go_enter Tryz.func34, Tryz.ntmps34
    go_wp2
    go_ret
    exact ⟨rfl, rfl⟩
  · show Calls Tryz.prog 34 #[.int .i32 110] w _
    go_enter Tryz.func34, Tryz.ntmps34
    go_wp2
    go_ret
    exact ⟨rfl, rfl⟩
  · show Calls Tryz.prog 34 #[.int .i32 98] w _
    go_enter Tryz.func34, Tryz.ntmps34
    go_wp2
    go_ret
    exact ⟨rfl, rfl⟩
  · show Calls Tryz.prog 34 #[.int .i32 115] w _
    go_enter Tryz.func34, Tryz.ntmps34
    go_wp2
    go_ret
    exact ⟨rfl, rfl⟩

/-- A field as cells. -/
abbrev fldV (f : Fld) (dv : Value) : Value := .agg #[.string (S f.text), .int .u64 (f.n : Int), dv]
def ReadPost (r : Fld × Nat) (w : World) (e : Ending) (w' : World) : Prop := ∃ dv, e = .returned (.tuple #[fldV r.1 dv, .int .i64 (r.2 : Int)]) ∧ CRow w' dv r.1.data ∧ (∀ b, b < w.heap.size → Off dv b) ∧ Below w.heap.size w w'
theorem crow_nil (w : World) : CRow w (.slice none 0 0) [] := .inl ⟨rfl, none, 0, rfl, fun _ => rfl, Nat.zero_le _⟩
theorem off_nil (b : Nat) : Off (.slice none 0 0) b := fun g o len cap e => by cases e
theorem below_set3 {w w2 : World} {t : TypeId} {a b c : Value} (hb2 : Below (w.alloc (.cells #[a, b, c] t)).heap.size (w.alloc (.cells #[a, b, c] t)) w2) (x y z : Value) :
    Below w.heap.size w (((w2.setCell ⟨w.heap.size, 0, none⟩ x).setCell ⟨w.heap.size, 1, none⟩ y).setCell ⟨w.heap.size, 2, none⟩ z) :=
  ((((((Below.refl _ _).alloc (Nat.le_refl _) _).trans (hb2.mono (by simp))).setCell (Nat.le_refl _) _).setCell (Nat.le_refl _) _).setCell (Nat.le_refl _) _)

set_option maxRecDepth 100000 in
set_option maxHeartbeats 1000000 in
theorem read_tenant (s : ByteArray) (w : World) (hs : s.size ≤ 1000000000000) : Calls Tryz.prog 55 #[.int .i32 116, .string s] w (ReadPost (readF 116 (L s)) w) := by
  have h2 := Lib.hid (fun W => tenant_any s W hs)
  have e : readF 116 (L s) = (if namedB 16 smallB lowB (L s) = true then (⟨L s, 0, []⟩, 0) else (fld0, 2)) := by unfold readF; rw [if_pos rfl]
  cases hb : namedB 16 smallB lowB (L s)
  · rw [hb] at h2 e
    rw [e]
    clear e hb
    go_enter Tryz.func55, Tryz.ntmps55
    go_wp2_with fail
    refine (h2.out _).mono ?_
    rintro e w2 ⟨rfl, hb2⟩
    obtain ⟨⟨c0, c1, c2⟩, f0, f1, f2⟩ := fresh3 _ _ _ _ _ _ hb2
    go_wp2
    refine bodyPost_ret (v := .tuple #[.agg #[.string ⟨#[]⟩, .int .u64 0, .slice none 0 0], .int .i64 2]) (by simp [results, Tryz.results55, go_sem, c0, c1, c2]) rfl ⟨_, rfl, crow_nil _, fun b _ => off_nil b, ?_⟩
    exact below_set3 hb2 _ _ _
  · rw [hb] at h2 e
    rw [e]
    clear e hb
    go_enter Tryz.func55, Tryz.ntmps55
    go_wp2_with fail
    refine (h2.out _).mono ?_
    rintro e w2 ⟨rfl, hb2⟩
    obtain ⟨⟨c0, c1, c2⟩, f0, f1, f2⟩ := fresh3 _ _ _ _ _ _ hb2
    go_wp2
    refine bodyPost_ret (v := .tuple #[.agg #[.string s, .int .u64 0, .slice none 0 0], .int .i64 0]) (by simp [results, Tryz.results55, go_sem, c0, c1, c2]) rfl ⟨_, rfl, crow_nil _, fun b _ => off_nil b, ?_⟩
    exact below_set3 hb2 _ _ _
set_option maxRecDepth 100000 in
set_option maxHeartbeats 1000000 in
theorem read_target (s : ByteArray) (w : World) (hs : s.size ≤ 1000000000000) : Calls Tryz.prog 55 #[.int .i32 104, .string s] w (ReadPost (readF 104 (L s)) w) := by
  have h2 := Lib.hid (fun W => target_any s W hs)
  have e : readF 104 (L s) = (if namedB 24 markB smallB (L s) = true then (⟨L s, 0, []⟩, 0) else (fld0, 2)) := by unfold readF; rw [if_neg (by decide), if_pos rfl]
  cases hb : namedB 24 markB smallB (L s)
  · rw [hb] at h2 e
    rw [e]
    clear e hb
    go_enter Tryz.func55, Tryz.ntmps55
    go_wp2_with fail
    refine (h2.out _).mono ?_
    rintro e w2 ⟨rfl, hb2⟩
    obtain ⟨⟨c0, c1, c2⟩, f0, f1, f2⟩ := fresh3 _ _ _ _ _ _ hb2
    go_wp2
    refine bodyPost_ret (v := .tuple #[.agg #[.string ⟨#[]⟩, .int .u64 0, .slice none 0 0], .int .i64 2]) (by simp [results, Tryz.results55, go_sem, c0, c1, c2]) rfl ⟨_, rfl, crow_nil _, fun b _ => off_nil b, ?_⟩
    exact below_set3 hb2 _ _ _
  · rw [hb] at h2 e
    rw [e]
    clear e hb
    go_enter Tryz.func55, Tryz.ntmps55
    go_wp2_with fail
    refine (h2.out _).mono ?_
    rintro e w2 ⟨rfl, hb2⟩
    obtain ⟨⟨c0, c1, c2⟩, f0, f1, f2⟩ := fresh3 _ _ _ _ _ _ hb2
    go_wp2
    refine bodyPost_ret (v := .tuple #[.agg #[.string s, .int .u64 0, .slice none 0 0], .int .i64 0]) (by simp [results, Tryz.results55, go_sem, c0, c1, c2]) rfl ⟨_, rfl, crow_nil _, fun b _ => off_nil b, ?_⟩
    exact below_set3 hb2 _ _ _
set_option maxRecDepth 100000 in
set_option maxHeartbeats 1000000 in
theorem read_bytes (s : ByteArray) (w : World) (hs : s.size ≤ 1000000000000) : Calls Tryz.prog 55 #[.int .i32 98, .string s] w (ReadPost (readF 98 (L s)) w) := by
  have h2 := Lib.hid (fun W => bytes_any s W hs)
  have e : readF 98 (L s) = (match bytesOf (L s) with | some d => (⟨[], 0, d⟩, 0) | none => (fld0, 2)) := by unfold readF; rw [if_neg (by decide), if_neg (by decide), if_pos rfl]; cases bytesOf (L s) <;> rfl
  rw [e]
  clear e
  generalize bytesOf (L s) = r at *
  go_enter Tryz.func55, Tryz.ntmps55
  go_wp2_with fail
  refine (h2.out _).mono ?_
  rintro e w2 ⟨v, n, rfl, hb2, hc⟩
  obtain ⟨⟨c0, c1, c2⟩, f0, f1, f2⟩ := fresh3 _ _ _ _ _ _ hb2
  rcases hc with ⟨rfl, rfl, rfl⟩ | ⟨l, rfl, rfl, hby⟩
  · go_wp2
    refine bodyPost_ret (v := .tuple #[.agg #[.string ⟨#[]⟩, .int .u64 0, .slice none 0 0], .int .i64 2]) (by simp [results, Tryz.results55, go_sem, c0, c1, c2]) rfl ⟨_, rfl, crow_nil _, fun b _ => off_nil b, ?_⟩
    exact below_set3 hb2 _ _ _
  · obtain ⟨a, cap, rfl⟩ := brow_form (bys_row hby)
    have HY := Lib.hid hby
    clear hby
    go_wp2
    refine bodyPost_ret (v := .tuple #[.agg #[.string ⟨#[]⟩, .int .u64 0, .slice a l.length cap], .int .i64 0]) (by simp [results, Tryz.results55, go_sem, c0, c1, c2]) rfl ⟨_, rfl, ?_, fun b hb => bys_off HY.out (by simp; omega), ?_⟩
    · have hz : (w.alloc (.cells #[.string ⟨#[]⟩, .int .u64 0, .slice none 0 0] 59)).heap.size = w.heap.size + 1 := by simp
      have HY' := HY.out
      rw [hz] at HY'
      exact bys_crow (ownsRow_set (ownsRow_set (ownsRow_set HY' (by show w.heap.size < _; omega) _) (by show w.heap.size < _; omega) _) (by show w.heap.size < _; omega) _)
    · exact below_set3 hb2 _ _ _

set_option maxRecDepth 100000 in
set_option maxHeartbeats 1000000 in
theorem read_num (s : ByteArray) (w : World) (hs : s.size ≤ 1000000000000) : Calls Tryz.prog 55 #[.int .i32 110, .string s] w (ReadPost (readF 110 (L s)) w) := by
  have h2 := Lib.hid (fun W => number_any s W hs)
  rw [err_n]
  generalize numOf (L s) = r at *
  obtain ⟨x, y⟩ := r
  simp only at h2 ⊢
  by_cases hy : y = 0
  · have t1 : ((y : Int) == 0) = true := by rw [beq_iff_eq]; omega
    clear hy
    go_enter Tryz.func55, Tryz.ntmps55
    go_wp2_with fail
    refine (h2.out _).mono ?_
    rintro e w2 ⟨rfl, hb2⟩
    obtain ⟨⟨c0, c1, c2⟩, f0, f1, f2⟩ := fresh3 _ _ _ _ _ _ hb2
    go_wp2
    refine bodyPost_ret (v := .tuple #[.agg #[.string ⟨#[]⟩, .int .u64 (x : Int), .slice none 0 0], .int .i64 (y : Int)]) (by simp [results, Tryz.results55, go_sem, c0, c1, c2]) rfl ⟨_, rfl, crow_nil _, fun b _ => off_nil b, ?_⟩
    exact below_set3 hb2 _ _ _
  · have t1 : ((y : Int) == 0) = false := by rw [beq_eq_false_iff_ne]; omega
    clear hy
    go_enter Tryz.func55, Tryz.ntmps55
    go_wp2_with fail
    refine (h2.out _).mono ?_
    rintro e w2 ⟨rfl, hb2⟩
    obtain ⟨⟨c0, c1, c2⟩, f0, f1, f2⟩ := fresh3 _ _ _ _ _ _ hb2
    go_wp2
    refine bodyPost_ret (v := .tuple #[.agg #[.string ⟨#[]⟩, .int .u64 (x : Int), .slice none 0 0], .int .i64 (y : Int)]) (by simp [results, Tryz.results55, go_sem, c0, c1, c2]) rfl ⟨_, rfl, crow_nil _, fun b _ => off_nil b, ?_⟩
    exact below_set3 hb2 _ _ _

set_option maxRecDepth 100000 in
set_option maxHeartbeats 1000000 in
theorem read_small (s : ByteArray) (w : World) (hs : s.size ≤ 1000000000000) : Calls Tryz.prog 55 #[.int .i32 115, .string s] w (ReadPost (readF 115 (L s)) w) := by
  have h2 := Lib.hid (fun W => number_any s W hs)
  have e : readF 115 (L s) = (if (numOf (L s)).2 = 0 ∧ 2147483647 < (numOf (L s)).1 then (fld0, 6) else (⟨[], (numOf (L s)).1, []⟩, (numOf (L s)).2)) := by
    unfold readF
    rw [if_neg (by decide), if_neg (by decide), if_neg (by decide), if_neg (by decide), if_pos rfl]
  rw [e]
  clear e
  generalize numOf (L s) = r at *
  obtain ⟨x, y⟩ := r
  simp only at h2 ⊢
  by_cases hy : y = 0
  · subst hy
    by_cases hx : 2147483647 < x
    · rw [if_pos ⟨rfl, hx⟩]
      have t1 : decide ((2147483647 : Int) < (x : Int)) = true := by simp; omega
      go_enter Tryz.func55, Tryz.ntmps55
      go_wp2_with fail
      refine (h2.out _).mono ?_
      rintro e w2 ⟨rfl, hb2⟩
      obtain ⟨⟨c0, c1, c2⟩, f0, f1, f2⟩ := fresh3 _ _ _ _ _ _ hb2
      go_wp2
      refine bodyPost_ret (v := .tuple #[.agg #[.string ⟨#[]⟩, .int .u64 0, .slice none 0 0], .int .i64 6]) (by simp [results, Tryz.results55, go_sem, c0, c1, c2]) rfl ⟨_, rfl, crow_nil _, fun b _ => off_nil b, ?_⟩
      exact below_set3 hb2 _ _ _
    · rw [if_neg (fun h => hx h.2)]
      have t1 : decide ((2147483647 : Int) < (x : Int)) = false := by simp; omega
      go_enter Tryz.func55, Tryz.ntmps55
      go_wp2_with fail
      refine (h2.out _).mono ?_
      rintro e w2 ⟨rfl, hb2⟩
      obtain ⟨⟨c0, c1, c2⟩, f0, f1, f2⟩ := fresh3 _ _ _ _ _ _ hb2
      go_wp2
      refine bodyPost_ret (v := .tuple #[.agg #[.string ⟨#[]⟩, .int .u64 (x : Int), .slice none 0 0], .int .i64 0]) (by simp [results, Tryz.results55, go_sem, c0, c1, c2]) rfl ⟨_, rfl, crow_nil _, fun b _ => off_nil b, ?_⟩
      exact below_set3 hb2 _ _ _
  · rw [if_neg (fun h => hy h.1)]
    have t1 : ((y : Int) == 0) = false := by rw [beq_eq_false_iff_ne]; omega
    clear hy
    go_enter Tryz.func55, Tryz.ntmps55
    go_wp2_with fail
    refine (h2.out _).mono ?_
    rintro e w2 ⟨rfl, hb2⟩
    obtain ⟨⟨c0, c1, c2⟩, f0, f1, f2⟩ := fresh3 _ _ _ _ _ _ hb2
    go_wp2
    refine bodyPost_ret (v := .tuple #[.agg #[.string ⟨#[]⟩, .int .u64 (x : Int), .slice none 0 0], .int .i64 (y : Int)]) (by simp [results, Tryz.results55, go_sem, c0, c1, c2]) rfl ⟨_, rfl, crow_nil _, fun b _ => off_nil b, ?_⟩
    exact below_set3 hb2 _ _ _

/-- line.read, of a sign that is known. -/
theorem read_any (c : UInt8) (s : ByteArray) (w : World) (h : known c = true) (hs : s.size ≤ 1000000000000) : Calls Tryz.prog 55 #[.int .i32 (c.toNat : Int), .string s] w (ReadPost (readF c (L s)) w) := by
  rcases known5 h with rfl | rfl | rfl | rfl | rfl
  · exact read_tenant s w hs
  · exact read_target s w hs
  · exact read_num s w hs
  · exact read_bytes s w hs
  · exact read_small s w hs
end Go.Proofs.YtinabbdecmjcpaaGreatDoor.Ev

namespace Go.Proofs.YtinabbdecmjcpaaGreatDoor.Ev
open Go.RowKit Go.Proofs.YtinabbdecmjcpaaGreatDoor Go.Proofs.YtinabbdecmjcpaaGreatDoor.Plain Go.Proofs.YtinabbdecmjcpaaGreatDoor.Words Go.Proofs.YtinabbdecmjcpaaGreatDoor.Named Go.Proofs.YtinabbdecmjcpaaGreatDoor.Hex Go.Proofs.YtinabbdecmjcpaaGreatDoor.Number Go.Proofs.YtinabbdecmjcpaaGreatDoor.Line Go.Proofs.YtinabbdecmjcpaaGreatDoor.Queue
set_option linter.unusedVariables false

/-- The bytes of fields, where they lie. -/
def Datas (w : World) (fs : List Fld) (dvs : List Value) (ex : List Nat) (B : Nat) : Prop := dvs.length = fs.length ∧ ∀ (i : Nat) (f : Fld) (d : Value), fs[i]? = some f → dvs[i]? = some d → CRow w d f.data ∧ (∀ b ∈ ex, Off d b) ∧ ∀ b, b < B → Off d b
theorem Datas.chg {w w' : World} {fs : List Fld} {dvs : List Value} {ex : List Nat} {B : Nat} (h : Datas w fs dvs ex B) (hc : Chg ex w w') : Datas w' fs dvs ex B :=
  ⟨h.1, fun i f d hf hd => ⟨crow_chg (h.2 i f d hf hd).1 hc (h.2 i f d hf hd).2.1, (h.2 i f d hf hd).2⟩⟩
theorem Datas.low {w w' : World} {fs : List Fld} {dvs : List Value} {ex bs : List Nat} {B : Nat} (h : Datas w fs dvs ex B) (hc : Chg bs w w') (hb : ∀ b ∈ bs, b < B) : Datas w' fs dvs ex B :=
  ⟨h.1, fun i f d hf hd => ⟨crow_chg (h.2 i f d hf hd).1 hc (fun b hx => (h.2 i f d hf hd).2.2 b (hb b hx)), (h.2 i f d hf hd).2⟩⟩
theorem Datas.snoc {w : World} {fs : List Fld} {dvs : List Value} {ex : List Nat} {B : Nat} {f : Fld} {d : Value} (h : Datas w fs dvs ex B) (hd : CRow w d f.data) (ho : ∀ b ∈ ex, Off d b) (hB : ∀ b, b < B → Off d b) : Datas w (fs ++ [f]) (dvs ++ [d]) ex B := by
  refine ⟨by simp [h.1], fun i f' d' hf' hd' => ?_⟩
  by_cases hi : i < fs.length
  · rw [List.getElem?_append_left hi] at hf'
    rw [List.getElem?_append_left (by rw [h.1]; exact hi)] at hd'
    exact h.2 i f' d' hf' hd'
  · rw [List.getElem?_append_right (by omega)] at hf'
    rw [List.getElem?_append_right (by rw [h.1]; omega), h.1] at hd'
    have h0 : i - fs.length = 0 := by
      have := (List.getElem?_eq_some_iff.1 hf').1
      simp at this; omega
    rw [h0] at hf' hd'
    cases Option.some.inj hf'
    cases Option.some.inj hd'
    exact ⟨hd, ho, hB⟩
/-- Fields as cells, one behind the other. -/
def flat : List Fld → List Value → List Value
  | f :: fs, d :: ds => .string (S f.text) :: .int .u64 (f.n : Int) :: d :: flat fs ds
  | _, _ => []
theorem flat_snoc : ∀ (fs : List Fld) (ds : List Value) (f : Fld) (d : Value), ds.length = fs.length → flat (fs ++ [f]) (ds ++ [d]) = flat fs ds ++ [.string (S f.text), .int .u64 (f.n : Int), d]
  | [], [], f, d, _ => rfl
  | [], _ :: _, f, d, h => by simp at h
  | _ :: _, [], f, d, h => by simp at h
  | g :: fs, e :: ds, f, d, h => by
    show .string (S g.text) :: .int .u64 (g.n : Int) :: e :: flat (fs ++ [f]) (ds ++ [d]) = _
    rw [flat_snoc fs ds f d (by simpa using h)]
    rfl
/-- A slice of fields. -/
def FRow (w : World) (B : Nat) (v : Value) (fs : List Fld) : Prop :=
  ∃ g cap dvs, v = .slice (some ⟨g, 0, none⟩) fs.length cap ∧ B ≤ g ∧ w.ownsRow 0 59 3 v fs.length (flat fs dvs) ∧ Datas w fs dvs [] B
def LineReadPost (er : Nat) (fs : List Fld) (w : World) (e : Ending) (w' : World) : Prop := ∃ v, e = .returned (.tuple #[v, .int .i64 (er : Int)]) ∧ Below w.heap.size w w' ∧ (er ≠ 0 → v = .slice none 0 0) ∧ (er = 0 → FRow w' w.heap.size v fs)

theorem next_chg {P : Program} {wr : World} {s : ByteArray} {pos K : Nat} (hp : pos < s.size) (hit : wr.heap[K]? = some (.stringIter s pos)) (ha : (s[pos]'hp).toNat < 128) :
    ∃ W1 : World, (∀ ty, (Instr.next (.pointer (some ⟨K, 0, none⟩)) true ty).run P wr = .ok (.tuple #[.bool true, .int .i64 pos, .int .i32 (s[pos]'hp).toNat]) W1) ∧ W1.heap[K]? = some (.stringIter s (pos + 1)) ∧ Chg [K] wr W1 := by
  obtain ⟨W1, h1, h2, h3, h4⟩ := next_at (P := P) (w := wr) (B := 0) hp hit ⟨rfl, rfl, rfl, Nat.le_refl _, fun _ _ => rfl⟩ (Nat.zero_le _) ha
  exact ⟨W1, h1, h2, h3.os, h3.tape, h3.output, h3.size, fun k hk hn => h4 k (fun e => hn (by simp [e]))⟩
theorem known_low {c : UInt8} (h : known c = true) : c.toNat < 128 := by
  rcases known5 h with rfl | rfl | rfl | rfl | rfl <;> decide
theorem chg_grown {w w' : World} {g : Nat} (h : w.grownBy w' (some g)) : Chg [g] w w' := ⟨h.os, h.tape, h.output, h.size, fun k hk hn => h.block k hk (fun e => hn (by cases e; simp))⟩
theorem ownsRow_zero {w : World} {B e z n : Nat} {v : Value} {xs : List Value} (h : w.ownsRow B e z v n xs) : w.ownsRow 0 e z v n xs := by
  obtain ⟨h1, h2⟩ := h
  refine ⟨h1, ?_⟩
  rcases h2 with h2 | ⟨g, cap, cur, a, b, c⟩
  · exact .inl h2
  · exact .inr ⟨g, cap, cur, a, Nat.zero_le _, c⟩

theorem signs_step (p : ByteArray) (xs : List (List UInt8)) (k : Nat) (hk : k < p.size) (hx : k < xs.length) :
    signs ((L p).drop k) (xs.drop k) = if signErr (p[k]'hk) xs[k] ≠ 0 then signErr (p[k]'hk) xs[k] else signs ((L p).drop (k + 1)) (xs.drop (k + 1)) := by
  rw [drop_cons p k hk, List.drop_eq_getElem_cons hx]
  rfl
theorem fields_get : ∀ (p : List UInt8) (xs : List (List UInt8)) (k : Nat) (hk : k < p.length) (hx : k < xs.length), (fields p xs)[k]? = some (readF p[k] xs[k]).1
  | c :: p, x :: xs, 0, _, _ => rfl
  | c :: p, x :: xs, k + 1, hk, hx => by
    show (fields p xs)[k]? = _
    exact fields_get p xs k (by simpa using hk) (by simpa using hx)
theorem take_snoc {α : Type} {l : List α} {k : Nat} {a : α} (h : l[k]? = some a) : l.take (k + 1) = l.take k ++ [a] := by
  rw [List.take_add_one, h]; rfl
/-- What the second loop keeps. -/
def RelL (p : ByteArray) (xs : List (List UInt8)) (FS : List Fld) (R : Nat) (w1 : World) (K : Nat) (v : Value) (wr : World) : Prop :=
  ∃ (pos : Nat) (dvs : List Value), pos ≤ p.size ∧ v = .slice (some ⟨w1.heap.size, 0, none⟩) pos p.size ∧ wr.heap[K]? = some (.stringIter p pos) ∧ Below w1.heap.size w1 wr ∧ wr.ownsRow w1.heap.size 59 3 (.slice (some ⟨w1.heap.size, 0, none⟩) pos p.size) pos (flat (FS.take pos) dvs) ∧ Datas wr (FS.take pos) dvs [w1.heap.size, K] w1.heap.size ∧ R = signs ((L p).drop pos) (xs.drop pos)

set_option maxRecDepth 100000 in
set_option maxHeartbeats 2000000 in
theorem lineread_any (s wd p : ByteArray) (w : World) (hs : s.size ≤ 1000000000000) (hp : p.size ≤ 1000000) (hk : ∀ c ∈ L p, known c = true) :
    Calls Tryz.prog 36 #[.string s, .string wd, .string p] w (LineReadPost (checkOf (words (L s)) (L wd) (L p)) (fieldsOf (words (L s)) (L p)) w) := by
  obtain ⟨i0, hi, hz0, hz1, hz2⟩ := info_parts info94
  have h1 := Lib.hid (fun W => words_any s W hs)
  have HK : Hid (∀ j (h : j < p.size), known (p[j]'h) = true) := Lib.hid fun j h => hk _ (List.mem_of_getElem? (get_L p j h))
  have hwlen : ∀ ws, words (L s) = some ws → ∀ x ∈ ws, x.length ≤ s.size := fun ws h x hx => by
    obtain ⟨e, _⟩ := words_back _ _ h
    have := join_len ws x hx
    rw [e, L_len] at this
    exact this
  obtain ⟨R, hR⟩ : ∃ R, R = checkOf (words (L s)) (L wd) (L p) := ⟨_, rfl⟩
  obtain ⟨FS, hFS⟩ : ∃ FS, FS = fieldsOf (words (L s)) (L p) := ⟨_, rfl⟩
  rw [← hR, ← hFS]
  have HR := Lib.hid hR
  have HFS := Lib.hid hFS
  have HWL := Lib.hid hwlen
  clear hR hk hwlen hFS
  generalize words (L s) = r at *
  go_enter Tryz.func36, Tryz.ntmps36
  go_wp2
  go_loopw [] (fun wr => ∃ pos : Nat, pos ≤ p.size ∧ wr.heap[w.heap.size]? = some (.stringIter p pos) ∧ Below w.heap.size w wr) (fun wr => p.size - wr.iterPos w.heap.size)
  case atStart => exact ⟨0, by omega, World.iter_heap w _ 0, (Below.refl _ _).alloc (Nat.le_refl _) _⟩
  case round =>
    obtain ⟨pos, hps, hit, hbel⟩ := hrel
    have hpos0 := iterPos_of hit
    by_cases hpp : pos < p.size
    · have hkn := HK.out pos hpp
      obtain ⟨W1, hnx, hit2, hch⟩ := next_chg (P := Tryz.prog) hpp hit (known_low hkn)
      have hbel2 : Below w.heap.size w W1 := hbel.trans (hch.below hbel.size (by simp))
      have HKN := Lib.hid (fun W => known_yes (p[pos]'hpp) W hkn)
      clear hkn hch hbel hit
      generalize (p[pos]'hpp).toNat = x at *
      go_wp2_with (go_at_call 34; refine (HKN.out _).mono ?_; rintro e w' ⟨rfl, rfl⟩)
      go_roundw
      case rel => exact ⟨pos + 1, by omega, hit2, hbel2⟩
      case measure => rw [iterPos_of hit2, hpos0]; omega
    · have hnx : ∀ ty, (Instr.next (.pointer (some ⟨w.heap.size, 0, none⟩)) true ty).run Tryz.prog wr = _ := fun ty => Lib.run_next_end_at wr w.heap.size p pos ty hit hpp
      clear hit hpos0
      go_wp2_with fail
      refine (h1.out _).mono ?_
      rintro e w1 ⟨v, n, rfl, hb1, hc1⟩
      have hB1 : Below w.heap.size w w1 := hbel.trans (hb1.mono hbel.size)
      have HB1 := Lib.hid hB1
      clear hbel hb1 hnx hB1
      rcases hc1 with ⟨hr, rfl, rfl⟩ | ⟨ws, hr, rfl, hst⟩
      · have hRv : R = 2 := by rw [HR.out, hr]; rfl
        have HRV := Lib.hid hRv
        clear hRv hr
        go_wp2_with fail
        go_ret2
        exact ⟨_, by rw [HRV.out]; rfl, HB1.out, fun _ => rfl, fun h => by rw [HRV.out] at h; cases h⟩
      · rcases strs_row hst with ⟨rfl, a, cap, rfl⟩ | ⟨g, o, cap, rfl, hg, hcl⟩
        · have hRv : R = 2 := by
            rw [HR.out, hr]
            unfold checkOf
            simp
          have HRV := Lib.hid hRv
          have t1 : ((0 : Int) != (p.size : Int) + 1) = true := by rw [bne_iff_ne]; omega
          clear hRv hr hst
          go_wp2_with fail
          go_ret2
          exact ⟨_, by rw [HRV.out]; rfl, HB1.out, fun _ => rfl, fun h => by rw [HRV.out] at h; cases h⟩
        · by_cases hl : ws.length = p.size + 1
          rotate_left
          · have hRv : R = 2 := by
              rw [HR.out, hr]
              show (if ws.length ≠ (L p).length + 1 ∨ ws.head? ≠ some (L wd) then 2 else signs (L p) ws.tail) = 2
              rw [L_len, if_pos (.inl hl)]
            have HRV := Lib.hid hRv
            have t1 : ((ws.length : Int) != (p.size : Int) + 1) = true := by rw [bne_iff_ne]; omega
            clear hRv hr hst hl hcl
            go_wp2_with fail
            go_ret2
            exact ⟨_, by rw [HRV.out]; rfl, HB1.out, fun _ => rfl, fun h => by rw [HRV.out] at h; cases h⟩
          · have t1 : ((ws.length : Int) != (p.size : Int) + 1) = false := by rw [bne_eq_false_iff_eq]; omega
            have t2 : (0 : Int) < (ws.length : Int) := by omega
            have t3 : 0 < ws.length := by omega
            have HCL : Hid (∀ i x, ws[i]? = some x → w1.cell? ⟨g, o + i, none⟩ = some (.string (S x))) := Lib.hid (fun i x hx => by
              obtain ⟨hi, rfl⟩ := List.getElem?_eq_some_iff.1 hx
              exact hcl i hi)
            clear hcl hst
            have HWS := Lib.hid (HWL.out ws hr)
            cases ws with
            | nil => simp at hl
            | cons w0 xs =>
              have c0 : w1.cell? ⟨g, o, none⟩ = some (.string (S w0)) := HCL.out 0 w0 rfl
              have hxl : xs.length = p.size := by simpa using hl
              generalize hM : (w0 :: xs).length = M at *
              have hMp : M = p.size + 1 := hl
              have HMM := Lib.hid hM
              clear hM
              by_cases he : w0 = L wd
              rotate_left
              · have hRv : R = 2 := by
                  rw [HR.out, hr]
                  show (if (w0 :: xs).length ≠ (L p).length + 1 ∨ (w0 :: xs).head? ≠ some (L wd) then 2 else signs (L p) (w0 :: xs).tail) = 2
                  rw [if_pos (.inr (fun h => he (Option.some.inj h)))]
                have t4 : ((S w0).toList != wd.toList) = true := by
                  rw [bne_iff_ne, ByteArray.toList_eq, ByteArray.toList_eq]
                  simpa using he
                have t6 : ((S w0).toList == wd.toList) = false := by
                  rw [beq_eq_false_iff_ne]
                  rw [bne_iff_ne] at t4
                  exact t4
                have t7 : ¬ (S w0).toList = wd.toList := by
                  rw [bne_iff_ne] at t4
                  exact t4
                have HRV := Lib.hid hRv
                generalize S w0 = y at *
                clear hRv hr he hl
                go_wp2_with fail
                go_ret2
                exact ⟨_, by rw [HRV.out]; rfl, HB1.out, fun _ => rfl, fun h => by rw [HRV.out] at h; cases h⟩
              · have hRv : R = signs (L p) xs := by
                  rw [HR.out, hr]
                  show (if (w0 :: xs).length ≠ (L p).length + 1 ∨ (w0 :: xs).head? ≠ some (L wd) then 2 else signs (L p) (w0 :: xs).tail) = _
                  rw [if_neg]
                  · rfl
                  · rw [L_len]
                    rintro (h | h)
                    · exact h (by rw [HMM.out]; exact hMp)
                    · exact h (by rw [he]; rfl)
                have hFv : FS = fields (L p) xs := by rw [HFS.out, hr]; rfl
                have HRV := Lib.hid hRv
                have HFV := Lib.hid hFv
                have hy : S w0 = wd := by rw [he, S_L]
                rw [hy] at c0
                clear hRv hFv hr he hl hy
                go_wp2_with (at_make; refine wpList_make_own _ rfl _ _ 60 rfl w1.heap.size 59 i0 _ 3 Tryz.underlying60 hi hz0 hz1 .i64 .i64 _ p.size rfl rfl (by rfl) (by rw [hz2]; omega) (by unfold maxLen; omega) (Nat.le_refl _) ?_; intro w2 hown2 hgrow2)
                have hb2 : Below w1.heap.size w1 w2 := (Below.refl _ _).grown hgrow2 (Nat.le_refl _) (fun k hk => by cases hk)
                have hG := own_lt hown2
                have hFl : FS.length = p.size := by rw [HFV.out, fields_len _ _ (by rw [L_len]; exact hxl), L_len]
                have HFL := Lib.hid hFl
                clear hgrow2 hFl
                go_loopw [12] (fun v wr => RelL p xs FS R w1 w2.heap.size v wr) (fun _ wr => p.size - wr.iterPos w2.heap.size)
                case atStart => exact ⟨0, [], by omega, rfl, World.iter_heap w2 _ 0, hb2.alloc hb2.size _, World.ownsRow.alloc hown2 _, ⟨by simp, fun i f d hf => by simp at hf⟩, HRV.out⟩
                case round =>
                  have hs2 := hb2.size
                  clear hown2 hb2
                  obtain ⟨pos, dvs, hps, rfl, hit, hbel, hown, hdat, hsg⟩ := hrel
                  have HSG := Lib.hid hsg
                  clear hsg
                  have hpos0 := iterPos_of hit
                  by_cases hpp : pos < p.size
                  · have hkn := HK.out pos hpp
                    have hxk : pos < xs.length := by omega
                    obtain ⟨W1, hnx, hit2, hch⟩ := next_chg (P := Tryz.prog) hpp hit (known_low hkn)
                    have hcell : W1.cell? ⟨g, o + (pos + 1), none⟩ = some (.string (S xs[pos])) := by
                      have h0 := HCL.out (pos + 1) xs[pos] (by simp [hxk])
                      have h1 := (hbel.cell (p := ⟨g, o + (pos + 1), none⟩) hg).trans h0
                      exact (hch.cell (p := ⟨g, o + (pos + 1), none⟩) (Nat.lt_of_lt_of_le hg hbel.size) (by simp; omega)).trans h1
                    have hownW := own_block hown (hch.block w1.heap.size (own_lt hown) (by simp; omega))
                    have hxsz : (S xs[pos]).size ≤ s.size := by
                      have := HWS.out xs[pos] (by simp)
                      show (xs[pos]).toArray.size ≤ _
                      simpa using this
                    have hrd := fun W => read_any (p[pos]'hpp) (S xs[pos]) W hkn (by omega)
                    have hstep := signs_step p xs pos hpp hxk
                    have hfg : FS[pos]? = some (readF (p[pos]'hpp) xs[pos]).1 := by
                      rw [HFV.out]
                      exact fields_get (L p) xs pos (by rw [L_len]; exact hpp) hxk
                    have hse : signErr (p[pos]'hpp) xs[pos] = (readF (p[pos]'hpp) xs[pos]).2 := rfl
                    rw [hse] at hstep
                    clear hse
                    simp only [show L (S xs[pos]) = xs[pos] from rfl] at hrd
                    generalize hrr : readF (p[pos]'hpp) xs[pos] = rr at *
                    clear hrr
                    obtain ⟨⟨tx, nn, dd⟩, er⟩ := rr
                    simp only at hstep hfg
                    have HRD : Hid (∀ W, Calls Tryz.prog 55 #[.int .i32 ((p[pos]'hpp).toNat : Int), .string (S xs[pos])] W fun e w' => ∃ dv, e = .returned (.tuple #[.agg #[.string (S tx), .int .u64 (nn : Int), dv], .int .i64 (er : Int)]) ∧ CRow w' dv dd ∧ (∀ b, b < W.heap.size → Off dv b) ∧ Below W.heap.size W w') := Lib.hid hrd
                    have HSTEP := Lib.hid hstep
                    have HFG := Lib.hid hfg
                    have hbelW : Below w1.heap.size w1 W1 := hbel.trans (hch.below hbel.size (by simp; omega))
                    have hdatW := hdat.chg (hch.mono (by simp))
                    have HO := Lib.hid hownW
                    have HBW := Lib.hid hbelW
                    have HDW := Lib.hid hdatW
                    have hKl := lt_of_block hit2
                    have hsW := hbelW.size
                    have hGW := own_lt hownW
                    clear hrd hstep hfg hch hit hbel hown hdat hownW hbelW hdatW hkn hxsz
                    generalize (p[pos]'hpp).toNat = x at *
                    generalize S xs[pos] = y at *
                    by_cases her : er = 0
                    rotate_left
                    · have t5 : ((er : Int) != 0) = true := by rw [bne_iff_ne]; omega
                      have hRe : R = er := by rw [HSG.out, HSTEP.out, if_pos her]
                      have HRE := Lib.hid hRe
                      have HER := Lib.hid her
                      clear hRe her
                      go_wp2_with (go_at_call 55; refine (HRD.out _).mono ?_; rintro e w3 ⟨dv, rfl, hcr, hof, hb3⟩; obtain ⟨ad, cd, rfl⟩ := crow_form hcr; have hs3 := hb3.size; have X3 := Lib.hid (And.intro hcr (And.intro hof hb3)); clear hcr hof hb3)
                      go_ret2
                      refine ⟨_, by rw [HRE.out]; rfl, ?_, fun _ => rfl, fun h => absurd (HRE.out.symm.trans h) HER.out⟩
                      exact (HB1.out.trans ((HBW.out.trans (X3.out.2.2.mono hsW)).mono HB1.out.size)).alloc (by have := HB1.out.size; omega) _
                    · have t5 : ((er : Int) != 0) = false := by rw [bne_eq_false_iff_eq]; omega
                      have hRe : R = signs ((L p).drop (pos + 1)) (xs.drop (pos + 1)) := by rw [HSG.out, HSTEP.out, if_neg (by rw [her]; simp)]
                      have HRE := Lib.hid hRe
                      clear hRe her
                      go_wp2_with (first | (go_at_call 55; refine (HRD.out _).mono ?_; rintro e w3 ⟨dv, rfl, hcr, hof, hb3⟩; obtain ⟨ad, cd, rfl⟩ := crow_form hcr; have hs3 := hb3.size; have X3 := Lib.hid (And.intro hcr (And.intro hof hb3)); clear hcr hof hb3) | (at_builtin; refine wpList_append_fits _ rfl _ _ 60 rfl w1.heap.size 59 i0 3 Tryz.underlying60 hi hz1 w1.heap.size pos p.size (flat (FS.take pos) dvs) rfl (own_block HO.out ((put_block (by omega)).trans (X3.out.2.2.block _ (by omega)))) ⟨_, 0, none⟩ 1 1 [.string (S tx), .int .u64 (nn : Int), .slice ad dd.length cd] rfl rfl (new3 _ _ _ _ _ _ (by simp)) (fun x hx => by simp at hx; rcases hx with rfl | rfl | rfl <;> rfl) (by omega) ?_; intro w4 hown4 hgrow4))
                      have hit4 : w4.heap[w2.heap.size]? = some (.stringIter p (pos + 1)) := by
                        rw [hgrow4.block _ (by simp; omega) (by intro e; have := Option.some.inj e; omega), put_block (by omega), X3.out.2.2.block _ (by omega)]
                        exact hit2
                      go_roundw
                      case rel =>
                        have hc3 : Chg [w1.heap.size, w2.heap.size] W1 w4 := (((Chg.of_below X3.out.2.2).alloc _).alloc _).trans ((chg_grown hgrow4).mono (by simp))
                        have hcr4 : CRow w4 (.slice ad dd.length cd) dd := by
                          have hc4 : Chg [w1.heap.size] w3 w4 := (((Chg.refl _ _).alloc _).alloc _).trans (chg_grown hgrow4)
                          exact crow_chg X3.out.1 hc4 (fun b hb => by simp at hb; subst hb; exact X3.out.2.1 _ (by omega))
                        have hD := (HDW.out.chg hc3).snoc (f := ⟨tx, nn, dd⟩) hcr4 (fun b hb => by simp at hb; rcases hb with rfl | rfl <;> exact X3.out.2.1 _ (by omega)) (fun b hb => X3.out.2.1 _ (by omega))
                        have hT := take_snoc HFG.out
                        refine ⟨pos + 1, dvs ++ [.slice ad dd.length cd], by omega, rfl, hit4, (put_below (HBW.out.trans (X3.out.2.2.mono hsW)) (by omega)).grown hgrow4 (by simp; omega) (fun k hk => by cases hk; omega), ?_, ?_, HRE.out⟩
                        · rw [hT, flat_snoc _ _ _ _ HDW.out.1]
                          exact hown4
                        · rw [hT]
                          exact hD
                      case measure => rw [iterPos_of hit4, hpos0]; omega
                  · obtain rfl : pos = p.size := by omega
                    have hnx : ∀ ty, (Instr.next (.pointer (some ⟨w2.heap.size, 0, none⟩)) true ty).run Tryz.prog wr = _ := fun ty => Lib.run_next_end_at wr w2.heap.size p p.size ty hit hpp
                    have hR0 : R = 0 := by
                      rw [HSG.out, List.drop_eq_nil_iff.2 (by rw [L_len]; omega)]
                      rfl
                    have HR0 := Lib.hid hR0
                    have X := Lib.hid (And.intro hown (And.intro hdat hbel))
                    clear hR0 hown hdat hbel hit hpos0
                    go_wp2_with fail
                    go_ret2
                    refine ⟨_, by rw [HR0.out]; rfl, HB1.out.trans (X.out.2.2.mono HB1.out.size), fun h => absurd HR0.out h, fun _ => ?_⟩
                    have e : FS.take p.size = FS := List.take_of_length_le (by rw [HFL.out]; exact Nat.le_refl _)
                    have x1 := X.out.1
                    have x2 := X.out.2.1
                    rw [e] at x1 x2
                    rw [← HFL.out] at x1 ⊢
                    exact ⟨w1.heap.size, _, dvs, rfl, HB1.out.size, ownsRow_zero x1, ⟨x2.1, fun i f d hf hd => ⟨(x2.2 i f d hf hd).1, by simp, fun b hb => (x2.2 i f d hf hd).2.2 b (by have := HB1.out.size; omega)⟩⟩⟩
end Go.Proofs.YtinabbdecmjcpaaGreatDoor.Ev
