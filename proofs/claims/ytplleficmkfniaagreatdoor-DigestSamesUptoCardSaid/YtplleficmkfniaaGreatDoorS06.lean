/- Texts. -/
import Derived.Test.YtplleficmkfniaaGreatDoorS05
import Derived.Lib.AppendIntMem
import Derived.Shelf.Vars
import Derived.Great.BuildSlice
import Derived.Stop.Asserts
import Derived.Deep.LoopGhost
import Derived.Deep.CutRange
import Derived.Laws.Pointers
import Derived.Recover
import Derived.Deep.DeepCutAuto
set_option linter.unusedSimpArgs false
set_option maxRecDepth 100000
set_option maxHeartbeats 4000000
namespace Go.Aff
open Go Go.RowKit
theorem no_outF (A : Option Addr) (n : Nat) : Out (fun _ => False) A n := fun _ _ _ h => h
def InB (D : Nat → Prop) (A : Option Addr) (n : Nat) : Prop := 0 < n → ∀ a, A = some a → D a.block
theorem InB.out {D F : Nat → Prop} {A : Option Addr} {n : Nat} (h : InB D A n) (hF : ∀ i, D i → ¬ F i) : Out F A n := fun hn a e => hF _ (h hn a e)
theorem InB.mono {D C : Nat → Prop} {A : Option Addr} {n : Nat} (h : InB D A n) (hC : ∀ i, D i → C i) : InB C A n := fun hn a e => hC _ (h hn a e)
theorem InB.zero (D : Nat → Prop) (A : Option Addr) : InB D A 0 := fun h => absurd h (by omega)
theorem gen_codeF {P : Program} {c : Code} {a : Act} {Q : Exit → Act → World → Prop} {w : World} (R : World → Prop) (hR : R w) (h : ∀ W, R W → Code.wp P c Q a W) : Code.wp P c Q a w := h w hR
theorem cell_keep {w w' : World} (hk : Keeps (fun _ => False) w w') {p : Addr} {v : Value} (h : w.cell? p = some v) : w'.cell? p = some v := (hk.cell (World.block_lt_of_cell? w _ h) (fun h => h)).trans h
theorem own_built (w : World) (e : TypeId) (n : Nat) (cs : List Value) (hn : cs.length = n) (hm : n ≤ maxLen) : (w.alloc (.cells cs.toArray e)).ownsRow 0 e 1 (.slice (some ⟨w.heap.size, 0, none⟩) n n) n cs :=
 ⟨by omega, .inr ⟨w.heap.size, n, cs.toArray, rfl, Nat.zero_le _, heap_alloc_new w _, Nat.le_refl _, hm, by simp [hn], by simp [← hn]⟩⟩
theorem Mine.built (w wr : World) (e : TypeId) (n : Nat) (cs : List Value) (hk : Keeps (fun _ => False) w wr) (hn : cs.length = n) (hm : n ≤ maxLen) : Mine w (wr.alloc (.cells cs.toArray e)) e (some ⟨wr.heap.size, 0, none⟩) n n cs :=
 ⟨own_built wr e n cs hn hm, hk.alloc _, fun g h => by have e1 : some wr.heap.size = some g := h; injection e1 with e1; have := hk.size; omega⟩
theorem Mine.rd {w wr : World} {e : TypeId} {A : Option Addr} {m c : Nat} {xs : List Value} (h : Mine w wr e A m c xs) : Rd wr A m xs := Rd.of_own h.1
end Go.Aff
namespace Go.Proofs.YtplleficmkfniaaGreatDoor
open Go Go.RowKit Go.Aff Go.Json
def errE (n : Int) : Value := .iface 85 (.int .i64 n)
def sizeV (j : JV) : List Value := [.int .i64 j.nodes, .int .i64 j.bytes, .int .i64 j.deep]
inductive JAt (D : Nat → Prop) (w : World) : Value → JV → Prop
 | null : JAt D w (.iface 217 (.agg #[])) .null
 | flag (b : Bool) : JAt D w (.iface 218 (.bool b)) (.flag b)
 | num (b : Nat) (hf : finiteF b = true) (hz : b ≠ 9223372036854775808) (hb : b < 18446744073709551616) : JAt D w (.iface 223 (.float .f64 b)) (.num b)
 | text (s : ByteArray) : JAt D w (.iface 224 (.string s)) (.text s)
 | list {b : Nat} {A : Option Addr} {c : Nat} {vs : List Value} {l : List JV} (hD : D b) (hb : Blk w b 231 (sizeV (.list l) ++ [.slice A l.length c])) (hr : Rd w A l.length vs) (ho : InB D A l.length)
   (hl : ∀ (i : Nat) (v : Value) (j : JV), vs[i]? = some v → l[i]? = some j → JAt D w v j) : JAt D w (.iface 186 (.pointer (some ⟨b, 0, none⟩))) (.list l)
 | obj {b : Nat} {A B : Option Addr} {c d : Nat} {vs : List Value} {ks : List ByteArray} {l : List JV} (hD : D b) (hb : Blk w b 282 (sizeV (.obj ks l) ++ [.slice B ks.length d, .slice A l.length c]))
   (hk : Rd w B ks.length (ks.map .string)) (hok : InB D B ks.length) (hr : Rd w A l.length vs) (ho : InB D A l.length)
   (hl : ∀ (i : Nat) (v : Value) (j : JV), vs[i]? = some v → l[i]? = some j → JAt D w v j) : JAt D w (.iface 187 (.pointer (some ⟨b, 0, none⟩))) (.obj ks l)
theorem JAt.keep {D F : Nat → Prop} {w w' : World} {v : Value} {j : JV} (h : JAt D w v j) (hk : Keeps F w w') (hF : ∀ i, D i → ¬ F i) : JAt D w' v j := by
 induction h with
 | null => exact .null
 | flag b => exact .flag b
 | num b h1 h2 h3 => exact .num b h1 h2 h3
 | text s => exact .text s
 | list hD hb hr ho _ ih => exact .list hD (hk.blk hb (hF _ hD)) (hr.keep hk (ho.out hF)) ho ih
 | obj hD hb hkk hok hr ho _ ih => exact .obj hD (hk.blk hb (hF _ hD)) (hkk.keep hk (hok.out hF)) hok (hr.keep hk (ho.out hF)) ho ih
theorem Rd.inB {w : World} {A : Option Addr} {n : Nat} {xs : List Value} {D : Nat → Prop} (h : Rd w A n xs) (hD : InB D A n) {C : Nat → Prop} (hC : ∀ i, D i → i < w.heap.size → C i) : InB C A n := fun hn a e => by
 obtain ⟨g, o, e2, hl⟩ := h.lt hn
 rw [e] at e2
 injection e2 with e2
 subst e2
 exact hC _ (hD hn _ e) hl
theorem JAt.mono {D C : Nat → Prop} {w : World} {v : Value} {j : JV} (h : JAt D w v j) (hC : ∀ i, D i → i < w.heap.size → C i) : JAt C w v j := by
 induction h with
 | null => exact .null
 | flag b => exact .flag b
 | num b h1 h2 h3 => exact .num b h1 h2 h3
 | text s => exact .text s
 | list hD hb hr ho _ ih => exact .list (hC _ hD hb.lt) hb hr (Rd.inB hr ho hC) ih
 | obj hD hb hkk hok hr ho _ ih => exact .obj (hC _ hD hb.lt) hb hkk (Rd.inB hkk hok hC) hr (Rd.inB hr ho hC) ih
theorem JAt.stay {D : Nat → Prop} {w w' : World} {v : Value} {j : JV} (h : JAt D w v j) (hk : Keeps (fun _ => False) w w') : JAt D w' v j := h.keep hk (fun _ _ h => h)
theorem JAt.iface {D : Nat → Prop} {w : World} {v : Value} {j : JV} (h : JAt D w v j) : ∃ T x, v = .iface T x := by cases h <;> exact ⟨_, _, rfl⟩
theorem JAt.one {D : Nat → Prop} {w : World} {v : Value} {j : JV} (h : JAt D w v j) : v.oneCell' = true := by cases h <;> rfl
def TreeAt (D : Nat → Prop) (w : World) (q : Nat) (v : Value) (j : JV) : Prop := D q ∧ Blk w q 135 [v] ∧ JAt D w v j
theorem TreeAt.keep {D F : Nat → Prop} {w w' : World} {q : Nat} {v : Value} {j : JV} (h : TreeAt D w q v j) (hk : Keeps F w w') (hF : ∀ i, D i → ¬ F i) : TreeAt D w' q v j := ⟨h.1, hk.blk h.2.1 (hF _ h.1), h.2.2.keep hk hF⟩
theorem TreeAt.stay {D : Nat → Prop} {w w' : World} {q : Nat} {v : Value} {j : JV} (h : TreeAt D w q v j) (hk : Keeps (fun _ => False) w w') : TreeAt D w' q v j := h.keep hk (fun _ _ h => h)
theorem TreeAt.mono {D C : Nat → Prop} {w : World} {q : Nat} {v : Value} {j : JV} (h : TreeAt D w q v j) (hC : ∀ i, D i → i < w.heap.size → C i) : TreeAt C w q v j := ⟨hC _ h.1 h.2.1.lt, h.2.1, h.2.2.mono hC⟩
end Go.Proofs.YtplleficmkfniaaGreatDoor
namespace Go.Proofs.YtplleficmkfniaaGreatDoor
open Go Go.RowKit Go.Aff
def MaxAt (w : World) : Prop := ∃ m : Int, w.cell? ⟨2, 0, none⟩ = some (.int .i64 m)
theorem MaxAt.stay {w w' : World} (h : MaxAt w) (k : Keeps (fun _ => False) w w') : MaxAt w' := h.imp fun _ h => cell_keep k h
theorem MaxAt.keep {F : Nat → Prop} {w w' : World} (h : MaxAt w) (k : Keeps F w w') (hg : ¬ F 2) : MaxAt w' := by
 obtain ⟨m, hm⟩ := h
 exact ⟨m, (k.cell (World.block_lt_of_cell? w _ hm) hg).trans hm⟩
end Go.Proofs.YtplleficmkfniaaGreatDoor
namespace Go.Proofs.YtplleficmkfniaaGreatDoor
open Go Go.RowKit Go.Aff Go.Sha
def GT : Nat := max (max (max 3 1) (max 2 4)) (max 7 8) + 1
theorem gt_sha : max 3 1 + 1 ≤ GT := by decide
theorem gt_max : 2 < GT := by decide
theorem gt_pow : 4 < GT := by decide
theorem gt_syn : 7 < GT := by decide
theorem gt_rng : 8 < GT := by decide
theorem gn_pow : Tryz.prog.globalNamed "internal/strconv.uint64pow10" = some 4 := by kernel_rfl
theorem gn_syn : Tryz.prog.globalNamed "strconv.ErrSyntax" = some 7 := by kernel_rfl
theorem gn_rng : Tryz.prog.globalNamed "strconv.ErrRange" = some 8 := by kernel_rfl
theorem var_keep {F : Nat → Prop} {w w' : World} {n : String} {g : Nat} {cs : Array Value} (hn : Tryz.prog.globalNamed n = some g) (h : w.var? Tryz.prog n = some cs) (k : Keeps F w w') (hg : ¬ F g) : w'.var? Tryz.prog n = some cs := by
 unfold World.var? at h ⊢
 rw [hn] at h ⊢
 simp only [Option.bind_some] at h ⊢
 cases hb : w.heap[g]? with
 | none => rw [hb] at h; cases h
 | some o => rw [k.block g (Array.getElem?_eq_some_iff.1 hb).1 hg]; exact h
structure GW (w : World) : Prop where
 sha : Glob w
 pow : Lib.TabIs Tryz.prog w "internal/strconv.uint64pow10" .u64 Lib.pow10Tab
 max : MaxAt w
 syn : ∃ tp p, w.var? Tryz.prog "strconv.ErrSyntax" = some #[.iface tp p]
 rng : ∃ tp p, w.var? Tryz.prog "strconv.ErrRange" = some #[.iface tp p]
 top : GT ≤ w.heap.size
theorem GW.keep {F : Nat → Prop} {w w' : World} (h : GW w) (k : Keeps F w w') (hF : ∀ i, F i → GT ≤ i) : GW w' := by
 have hn : ∀ g, g < GT → ¬ F g := fun g hg hf => by have := hF g hf; omega
 refine ⟨h.sha.keep k fun i hi => Nat.le_trans gt_sha (hF i hi), var_keep gn_pow h.pow k (hn _ gt_pow), h.max.keep k (hn _ gt_max), ?_, ?_, Nat.le_trans h.top k.size⟩
 ·obtain ⟨tp, p, e⟩ := h.syn
  exact ⟨tp, p, var_keep gn_syn e k (hn _ gt_syn)⟩
 ·obtain ⟨tp, p, e⟩ := h.rng
  exact ⟨tp, p, var_keep gn_rng e k (hn _ gt_rng)⟩
theorem GW.stay {w w' : World} (h : GW w) (k : Keeps (fun _ => False) w w') : GW w' := h.keep k fun _ h => h.elim
theorem GW.tab {w : World} (h : GW w) : Lib.TabBelow Tryz.prog w.heap.size w "internal/strconv.uint64pow10" .u64 Lib.pow10Tab := Lib.tabBelow_of_tabIs h.pow
end Go.Proofs.YtplleficmkfniaaGreatDoor
namespace Go.Proofs.YtplleficmkfniaaGreatDoor
open Go Go.RowKit Go.Sha Go.Aff
theorem gPow : Tryz.prog.globalNamed "internal/strconv.uint64pow10" = some 4 := by kernel_rfl
theorem gPowT : (Tryz.prog.globals[4]?).map (·.type) = some 383 := by kernel_rfl
theorem cellsU64 : Tryz.prog.cellsOf 76 = 1 := by kernel_rfl
theorem cells20U64 : Tryz.prog.cellsOf 383 = 20 := by kernel_rfl
theorem gSyn : Tryz.prog.globalNamed "strconv.ErrSyntax" = some 7 := by kernel_rfl
theorem gSynT : (Tryz.prog.globals[7]?).map (·.type) = some 32 := by kernel_rfl
theorem gRng : Tryz.prog.globalNamed "strconv.ErrRange" = some 8 := by kernel_rfl
theorem gRngT : (Tryz.prog.globals[8]?).map (·.type) = some 32 := by kernel_rfl
theorem cellsStr : Tryz.prog.cellsOf 9 = 1 := by kernel_rfl
theorem cellsEs : Tryz.prog.cellsOf 415 = 1 := by kernel_rfl
theorem es_star : "*" ++ "errors.errorString" = "*errors.errorString" := by decide
theorem es_row (u : TypeId) (h : Tryz.prog.typeName? 3 u = some "*errors.errorString") : u = 413 :=
 typeName_ptr_named (nm := "errors.errorString") (by rw [es_star]; kernel_rfl) (by kernel_rfl) (by decide) u (by rw [es_star]; exact h)
theorem max_of_shaped {W : World} (h : W.ShapedOpen Tryz.prog) : MaxAt W :=
 cell_of_shapedOpen_int (P := Tryz.prog) (g := 2) (t := 3) (zero := #[.int .i64 0]) h (of_decide_eq_true (by kernel_rfl)) (by kernel_rfl) rfl (by kernel_rfl) (by kernel_rfl) Tryz.underlying3
theorem lt_of_var {w : World} {n : String} {g : Nat} {cs : Array Value} (hn : Tryz.prog.globalNamed n = some g) (h : w.var? Tryz.prog n = some cs) : g < w.heap.size := by
 unfold World.var? at h
 rw [hn] at h
 simp only [Option.bind_some] at h
 cases hb : w.heap[g]? with
 | none => rw [hb] at h; cases h
 | some o => exact (Array.getElem?_eq_some_iff.1 hb).1
theorem gw_of_laid {W : World} (h : laidMetH Tryz.prog [("math/bits.deBruijn32tab", Rows.laid_math_bits_deBruijn32tab), ("math/bits.deBruijn64tab", Rows.laid_math_bits_deBruijn64tab), ("internal/strconv.uint64pow10", Rows.laid_internal_strconv_uint64pow10), ("unicode/utf8.acceptRanges", Rows.laid_unicode_utf8_acceptRanges), ("strconv.ErrRange", Rows.laid_strconv_ErrRange), ("strconv.ErrSyntax", Rows.laid_strconv_ErrSyntax), ("affidavit/sha.first", Rows.laid_affidavit_sha_first), ("affidavit/sha.constants", Rows.laid_affidavit_sha_constants), ("unicode/utf8.first", Rows.laid_unicode_utf8_first)] W) (hm : MaxAt W) : GW W := by
 have h1 : laidMet Tryz.prog [("math/bits.deBruijn32tab", Rows.laid_math_bits_deBruijn32tab), ("math/bits.deBruijn64tab", Rows.laid_math_bits_deBruijn64tab), ("internal/strconv.uint64pow10", Lib.tabData .u64 Lib.pow10Tab), ("unicode/utf8.acceptRanges", Rows.laid_unicode_utf8_acceptRanges), ("strconv.ErrRange", Rows.laid_strconv_ErrRange), ("strconv.ErrSyntax", Rows.laid_strconv_ErrSyntax), ("affidavit/sha.first", Lib.tabData .u32 firstL), ("affidavit/sha.constants", Lib.tabData .u32 K), ("unicode/utf8.first", Rows.laid_unicode_utf8_first)] W := h
 have h3 := laidMet.tail (laidMet.tail h1)
 have a := Lib.tabIs_of_head gPow gPowT Tryz.underlying383 Tryz.underlying76 cellsU64 cells20U64 h3
 have h5 := laidMet.tail (laidMet.tail h3)
 obtain ⟨ar, sr, hr, _⟩ := laid_sentinel h5 gRng gRngT Tryz.underlying32 es_row Tryz.underlying413 Tryz.underlying415 rfl rfl Tryz.underlying9 cellsEs cellsStr
 have h6 := laidMet.tail h5
 obtain ⟨aq, sq, hs, _⟩ := laid_sentinel h6 gSyn gSynT Tryz.underlying32 es_row Tryz.underlying413 Tryz.underlying415 rfl rfl Tryz.underlying9 cellsEs cellsStr
 have h7 := laidMet.tail h6
 have b := Lib.tabIs_of_head gFirst gFirstT Tryz.underlying254 Tryz.underlying253 cellsU32 cells8U32 h7
 have c := Lib.tabIs_of_head gConst gConstT Tryz.underlying346 Tryz.underlying253 cellsU32 cells64U32 (laidMet.tail h7)
 refine ⟨⟨fun t ht => c.cell gConst t ht, fun i hi => b.cell gFirst i hi⟩, a, hm, ⟨_, _, hs⟩, ⟨_, _, hr⟩, ?_⟩
 have e1 := lt_of_var gConst c
 have e2 := lt_of_var gFirst b
 have e3 := lt_of_var gPow a
 have e4 := lt_of_var gSyn hs
 have e5 := lt_of_var gRng hr
 have e6 : 2 < W.heap.size := by
  obtain ⟨m, h⟩ := hm
  exact World.block_lt_of_cell? W _ h
 unfold GT
 omega
mutual
def datL : DataW Unit → List Value
 | .agg l => datLs l
 | .lit (.int k z) => [Value.int k z]
 | _ => [undef]
def datLs : List (DataW Unit) → List Value
 | [] => []
 | d :: l => datL d ++ datLs l
end
abbrev rngS : ByteArray := ⟨#[118, 97, 108, 117, 101, 32, 111, 117, 116, 32, 111, 102, 32, 114, 97, 110, 103, 101]⟩
abbrev synS : ByteArray := ⟨#[105, 110, 118, 97, 108, 105, 100, 32, 115, 121, 110, 116, 97, 120]⟩
noncomputable def lowD : Nat := (World.holding Tryz.prog default ⟨#[], #[], []⟩).heap.size
noncomputable def laidWorldD (os : Os) : World :=
 let w := World.holding Tryz.prog os ⟨#[.cells #[.string rngS] 415, .cells #[.string synS] 415], #[], []⟩
 { w with heap := ((((((((w.heap.modify 1 (fillCells (vi .u32 firstL).toArray)).modify 3 (fillCells (vi .u32 K).toArray)).modify 9 (fillCells (datL Rows.laid_math_bits_deBruijn32tab).toArray)).modify 10 (fillCells (datL Rows.laid_math_bits_deBruijn64tab).toArray)).modify 4 (fillCells (datL Rows.laid_internal_strconv_uint64pow10).toArray)).modify 5 (fillCells (datL Rows.laid_unicode_utf8_first).toArray)).modify 6 (fillCells (datL Rows.laid_unicode_utf8_acceptRanges).toArray)).modify 8 (fillCells #[.iface 413 (.pointer (some ⟨lowD, 0, none⟩))])).modify 7 (fillCells #[.iface 413 (.pointer (some ⟨lowD + 1, 0, none⟩))]) }
end Go.Proofs.YtplleficmkfniaaGreatDoor
namespace Go.Aff
open Go Go.RowKit
def RdS (s : Nat) (w : World) (A : Option Addr) (k : Nat) (xs : List Value) : Prop := xs.length = k * s ∧ (0 < k → ∃ g o, A = some ⟨g, o, none⟩ ∧ ∀ j, j < k * s → w.cell? ⟨g, o + j, none⟩ = xs[j]?)
def MineS (s : Nat) (w wr : World) (e : TypeId) (A : Option Addr) (m c : Nat) (xs : List Value) : Prop :=
 wr.ownsRow 0 e s (.slice A m c) m xs ∧ Keeps (fun _ => False) w wr ∧ ∀ g, (Value.slice A m c).ownBlock = some g → w.heap.size ≤ g
theorem MineS.nil (s : Nat) (w : World) (e : TypeId) : MineS s w w e none 0 0 [] := ⟨World.ownsRow_nil w 0 e s, Keeps.refl _ w, fun g h => by simp [Value.ownBlock] at h⟩
theorem MineS.keep {s : Nat} {w wr w' : World} {e : TypeId} {A : Option Addr} {m c : Nat} {xs : List Value} (h : MineS s w wr e A m c xs) (hk : Keeps (fun _ => False) wr w') : MineS s w w' e A m c xs :=
 ⟨hk.own h.1 (fun _ _ h => h), h.2.1.trans hk (fun _ _ h => h), h.2.2⟩
theorem MineS.alloc {s : Nat} {w wr : World} {e : TypeId} {A : Option Addr} {m c : Nat} {xs : List Value} (h : MineS s w wr e A m c xs) (o : Obj) : MineS s w (wr.alloc o) e A m c xs := h.keep ((Keeps.refl _ wr).alloc o)
theorem MineS.len {s : Nat} {w wr : World} {e : TypeId} {A : Option Addr} {m c : Nat} {xs : List Value} (h : MineS s w wr e A m c xs) : xs.length = m * s := h.1.1
structure Two (w wr : World) (e : TypeId) (s : Nat) (A : Option Addr) (n c : Nat) (xs : List Value) (f : TypeId) (t : Nat) (B : Option Addr) (m d : Nat) (ys : List Value) : Prop where
 a : MineS s w wr e A n c xs
 b : MineS t w wr f B m d ys
 ap : ∀ g, (Value.slice A n c).ownBlock = some g → (Value.slice B m d).ownBlock ≠ some g
section
variable {w0 w wr w' : World} {e f : TypeId} {s t : Nat} {A B : Option Addr} {n c m d : Nat} {xs ys : List Value}
theorem Two.nil (w : World) (e f : TypeId) (s t : Nat) : Two w w e s none 0 0 [] f t none 0 0 [] := ⟨MineS.nil s w e, MineS.nil t w f, fun g h => by simp [Value.ownBlock] at h⟩
theorem Two.swap (h : Two w wr e s A n c xs f t B m d ys) : Two w wr f t B m d ys e s A n c xs := ⟨h.b, h.a, fun g h1 h2 => h.ap g h2 h1⟩
theorem Two.keep (h : Two w wr e s A n c xs f t B m d ys) (hk : Keeps (fun _ => False) wr w') : Two w w' e s A n c xs f t B m d ys := ⟨h.a.keep hk, h.b.keep hk, h.ap⟩
theorem Two.alloc (h : Two w wr e s A n c xs f t B m d ys) (o : Obj) : Two w (wr.alloc o) e s A n c xs f t B m d ys := h.keep ((Keeps.refl _ wr).alloc o)
theorem MineS.own_lt (h : MineS s w wr e A n c xs) {g : Nat} (hg : (Value.slice A n c).ownBlock = some g) : g < wr.heap.size := (h.1.lt g hg).2
theorem MineS.grown {A' : Option Addr} {k c' : Nat} {zs : List Value} (h : MineS s w wr e A n c xs) (ho : w'.ownsRow 0 e s (.slice A' k c') k zs) (hg : wr.grownBy w' (Value.slice A n c).ownBlock)
  (hb : (Value.slice A' k c').ownBlock = (Value.slice A n c).ownBlock ∨ (Value.slice A' k c').ownBlock = some wr.heap.size) : MineS s w w' e A' k c' zs := by
 refine ⟨ho, h.2.1.grown hg (fun g e => .inr (h.2.2 g e)), fun g hg' => ?_⟩
 rcases hb with h1 | h1
 ·exact h.2.2 g (h1.symm.trans hg')
 ·rw [h1] at hg'
  injection hg' with e1
  have := h.2.1.size
  omega
theorem Two.grown {A' : Option Addr} {k c' : Nat} {zs : List Value} (h : Two w wr e s A n c xs f t B m d ys) (ho : w'.ownsRow 0 e s (.slice A' k c') k zs) (hg : wr.grownBy w' (Value.slice A n c).ownBlock)
  (hb : (Value.slice A' k c').ownBlock = (Value.slice A n c).ownBlock ∨ (Value.slice A' k c').ownBlock = some wr.heap.size) : Two w w' e s A' k c' zs f t B m d ys := by
 refine ⟨h.a.grown ho hg hb, ⟨(Keeps.of_grown hg).own h.b.1 (fun i hi he => h.ap i he hi), h.a.2.1.grown hg (fun g e => .inr (h.a.2.2 g e)), h.b.2.2⟩, fun g hg' => ?_⟩
 rcases hb with h1 | h1
 ·exact h.ap g (h1.symm.trans hg')
 ·rw [h1] at hg'
  injection hg' with e1
  intro hB
  have := h.b.own_lt hB
  omega
theorem RdS.keep {F : Nat → Prop} (h : RdS s w A n xs) (hk : Keeps F w w') (hF : 0 < n → ∀ a, A = some a → ¬ F a.block) : RdS s w' A n xs := by
 refine ⟨h.1, fun hn => ?_⟩
 obtain ⟨g, o, e1, hc⟩ := h.2 hn
 refine ⟨g, o, e1, fun j hj => ?_⟩
 have h1 := hc j hj
 rw [List.getElem?_eq_getElem (by rw [h.1]; exact hj)] at h1 ⊢
 exact (hk.cell (World.block_lt_of_cell? w _ h1) (fun hb => hF hn ⟨g, o, none⟩ e1 hb)).trans h1
theorem RdS.stay (h : RdS s w A n xs) (hk : Keeps (fun _ => False) w w') : RdS s w' A n xs := h.keep hk (fun _ _ _ h => h)
theorem RdS.blk {p : Nat} {ty : TypeId} {cs : List Value} (h : Blk w p ty cs) (hl : cs.length = n * s) : RdS s w (some ⟨p, 0, none⟩) n cs := ⟨hl, fun _ => ⟨p, 0, rfl, fun j hj => by rw [Nat.zero_add]; exact h.cell j⟩⟩
end
section
variable {P : Program}
theorem wpList_append_S (w : World) {ops : Array Oper} {rest : List Oper} {o : Oper} {a : Act} {Q : Exit → Act → World → Prop} (hgd : o.guard = none) (s x : Operand) (t : TypeId)
  (ho : o.op = .call { callee := .builtin .append, args := #[s, x], argTypes := #[t, t] })
  (e : TypeId) (z : Value) (sz bytes : Nat) (ht : P.underlying t = some (.slice e)) (hinfo : (P.info? e).map (fun i => (i.zero, i.size, i.bytes)) = some (some z, sz, bytes)) (hzs : z.cells.size = sz) (hpos : 0 < sz)
  (A0 : Option Addr) (n c0 : Nat) (xs : List Value) (hs : a.eval s = .slice A0 n c0) (hown : w.ownsRow 0 e sz (.slice A0 n c0) n xs)
  (A : Option Addr) (m c : Nat) (news : List Value) (hx : a.eval x = .slice A m c) (hr : RdS sz w A m news) (h1 : ∀ u ∈ news, u.oneCell' = true)
  (h63 : n + m ≤ maxLen) (hbytes : (n + m) * bytes ≤ 140737488355328)
  (h : ∀ A' c' w', w'.ownsRow 0 e sz (.slice A' (n + m) c') (n + m) (xs ++ news) → w.grownBy w' (Value.slice A0 n c0).ownBlock → ((Value.slice A' (n + m) c').ownBlock = (Value.slice A0 n c0).ownBlock ∨ (Value.slice A' (n + m) c').ownBlock = some w.heap.size) → wpList P ops Q rest (a.put o.dst (.slice A' (n + m) c')) w') :
  wpList P ops Q (o :: rest) a w := by
 obtain ⟨i, hi, hzi⟩ := Option.map_eq_some_iff.1 hinfo
 simp only [Prod.mk.injEq] at hzi
 obtain ⟨hz, hsz, hby⟩ := hzi
 rcases A with _ | ad
 ·have hm : m = 0 := by
   rcases Nat.eq_zero_or_pos m with h0 | h0
   ·exact h0
   ·obtain ⟨g, o, e1, _⟩ := hr.2 h0
    cases e1
  subst hm
  have hn : news = [] := List.eq_nil_of_length_eq_zero (by rw [hr.1]; simp)
  subst hn
  refine wpList_plain hgd fun K hK => ?_
  have hrun : (Builtin.append_ #[t, t] o.type #[.slice A0 n c0, .slice none 0 c]).run P w = .ok (.slice A0 n c0) w := by
   rcases hown.2 with ⟨hv, hn0⟩ | ⟨g, cap, cur, hv, _, _, hnc, _⟩
   ·injection hv with e1 e2 e3
    subst e1 e2 e3
    simp [Builtin.append_, run_underlying ht, sizeOf, typeInfo, hi, Builtin.lenOf, Builtin.firstCells]
   ·injection hv with e1 e2 e3
    subst e1 e3
    simp [Builtin.append_, run_underlying ht, sizeOf, typeInfo, hi, Builtin.lenOf, Builtin.firstCells, hnc, storeCells]
  unfold Oper.wp execOp
  simp only [ho, resolve, invoke, builtin, Sem.run_bind, Sem.run_pure, Result.andThen_ok, List.map_toArray, List.map_cons, List.map_nil, hs, hx, hrun]
  have := h A0 c0 w (by simpa using hown) (World.grownBy.refl w _) (.inl rfl)
  exact hK _ _ this
 ·have hcells : ∀ j u, news[j]? = some u → w.cell? (ad.add j) = some u := by
   intro j u hu
   have hj : j < news.length := (List.getElem?_eq_some_iff.1 hu).1
   have hm0 : 0 < m := by
    rcases Nat.eq_zero_or_pos m with h0 | h0
    ·subst h0; rw [hr.1] at hj; simp at hj
    ·exact h0
   obtain ⟨g, o, e1, hc⟩ := hr.2 hm0
   injection e1 with e1
   subst e1
   have hj2 : j < m * sz := by rw [← hr.1]; exact hj
   have := hc j hj2
   rw [hu] at this
   rw [add_at]
   exact this
  refine wpList_append_own_at w hgd s x t ho 0 e i z sz bytes ht hi hz hsz hby hzs hpos (.slice A0 n c0) n xs hs hown ad m c news hx hr.1 hcells h1 h63 hbytes (by omega) fun v' w' h2 h3 _ h5 => ?_
  obtain ⟨A', c', rfl⟩ := own_shape h2
  exact h A' c' w' h2 h3 h5
theorem wpList_append_mine (w0 w : World) {ops : Array Oper} {rest : List Oper} {o : Oper} {a : Act} {Q : Exit → Act → World → Prop} (hgd : o.guard = none) (s x : Operand) (t : TypeId)
  (ho : o.op = .call { callee := .builtin .append, args := #[s, x], argTypes := #[t, t] })
  (e : TypeId) (z : Value) (sz bytes : Nat) (ht : P.underlying t = some (.slice e)) (hinfo : (P.info? e).map (fun i => (i.zero, i.size, i.bytes)) = some (some z, sz, bytes)) (hzs : z.cells.size = sz) (hpos : 0 < sz)
  {A0 : Option Addr} {n c0 : Nat} {xs : List Value} (hs : a.eval s = .slice A0 n c0) (hT : MineS sz w0 w e A0 n c0 xs)
  (A : Option Addr) (m c : Nat) (news : List Value) (hx : a.eval x = .slice A m c) (hr : RdS sz w A m news) (h1 : ∀ u ∈ news, u.oneCell' = true)
  (h63 : n + m ≤ maxLen) (hbytes : (n + m) * bytes ≤ 140737488355328)
  (h : ∀ A' c' w', MineS sz w0 w' e A' (n + m) c' (xs ++ news) → wpList P ops Q rest (a.put o.dst (.slice A' (n + m) c')) w') :
  wpList P ops Q (o :: rest) a w :=
 wpList_append_S w hgd s x t ho e z sz bytes ht hinfo hzs hpos A0 n c0 xs hs hT.1 A m c news hx hr h1 h63 hbytes fun A' c' w' k1 k2 k3 => h A' c' w' (hT.grown k1 k2 k3)
end
def cutS (s : Nat) (A : Option Addr) (c l : Nat) : Option Addr := if c = l then A else A.map (·.add (l * s))
section
variable {P : Program} {T e : TypeId} {s : Nat}
end
section
variable {w w0 : World} {s n c : Nat} {A : Option Addr} {xs : List Value}
theorem RdS.cut (h : RdS s w A n xs) {l : Nat} (hl : l ≤ n) (hc : n ≤ c) : RdS s w (cutS s A c l) (n - l) (xs.drop (l * s)) := by
 refine ⟨by rw [List.length_drop, h.1, Nat.sub_mul], fun hn => ?_⟩
 obtain ⟨g, o, rfl, hcell⟩ := h.2 (by omega)
 unfold cutS
 rw [if_neg (by omega)]
 refine ⟨g, o + l * s, by simp [add_at], fun j hj => ?_⟩
 rw [Nat.sub_mul] at hj
 rw [Nat.add_assoc, hcell _ (by omega), List.getElem?_drop]
theorem RdS.take (h : RdS s w A n xs) {k : Nat} (hk : k ≤ n) : RdS s w A k (xs.take (k * s)) := by
 have hle : k * s ≤ n * s := Nat.mul_le_mul_right s hk
 refine ⟨by rw [List.length_take, h.1]; omega, fun hn => ?_⟩
 obtain ⟨g, o, e, hcell⟩ := h.2 (by omega)
 refine ⟨g, o, e, fun j hj => ?_⟩
 rw [hcell j (by omega), List.getElem?_take, if_pos hj]
end
theorem fold_zipB (vs : List Value) : ∀ (k : Nat) (cs : Array Value), k + vs.length ≤ cs.size → List.foldl (fun (cs : Array Value) (x : Value × Nat) => cs.setIfInBounds x.snd x.fst) cs (vs.zipIdx k) = (cs.toList.take k ++ vs ++ cs.toList.drop (k + vs.length)).toArray := by
 induction vs with
 | nil => intro k cs h; simp
 | cons v vs ih =>
  intro k cs h
  simp only [List.length_cons] at h
  rw [List.zipIdx_cons, List.foldl_cons, ih (k + 1) _ (by simp; omega)]
  have hk : k < cs.toList.length := by simp; omega
  simp only [Array.toList_setIfInBounds]
  congr 1
  have e1 : (cs.toList.set k v).take (k + 1) = cs.toList.take k ++ [v] := by
   rw [List.take_add_one, List.getElem?_set_self hk, List.take_set_of_le (Nat.le_refl k)]
   rfl
  have e2 : (cs.toList.set k v).drop (k + 1 + vs.length) = cs.toList.drop (k + (vs.length + 1)) := by
   rw [List.drop_set_of_lt (by omega)]
   congr 1
   omega
  rw [e1, e2]
  simp
theorem fold_zipB0 (vs : List Value) (cs : Array Value) (h : cs.size = vs.length) : List.foldl (fun (cs : Array Value) (x : Value × Nat) => cs.setIfInBounds x.snd x.fst) cs vs.zipIdx = vs.toArray := by
 have := fold_zipB vs 0 cs (by omega)
 rw [this, List.drop_eq_nil_of_le (by simp; omega)]
 simp
section
variable {P : Program}
theorem run_box (w : World) (t e : TypeId) (z : Value) (sz : Nat) (ht : P.underlying t = some (.slice e)) (hinfo : (P.info? e).map (fun i => (i.zero, i.size)) = some (some z, sz)) (hpos : 0 < sz) (hsm : sz ≤ 16777216) (SX : List Value) (hl : SX.length = sz) :
  (Instr.buildSlice t 1 #[(0, .agg SX.toArray)]).run P w = .ok (.slice (some ⟨w.heap.size, 0, none⟩) 1 1) (w.alloc (.cells SX.toArray e)) := by
 obtain ⟨i, hi, hzi⟩ := Option.map_eq_some_iff.1 hinfo
 simp only [Prod.mk.injEq] at hzi
 refine run_buildSlice w t e 1 _ SX.toArray i z ht hi hzi.1 (by rw [hzi.2]; simp; omega) (by rw [hzi.2]; omega) ?_
 rw [hzi.2]
 simp only [Instr.fill, Value.cells, Nat.zero_mul, Nat.zero_add, Nat.one_mul, List.size_toArray, Array.size_map, Array.size_range, ← Array.foldl_toList, Array.toList_zipIdx]
 rw [if_neg (by simp [hl]), fold_zipB0 _ _ (by simp [hl])]
theorem wpList_box_S (w : World) {ops : Array Oper} {rest : List Oper} {o : Oper} {a : Act} {Q : Exit → Act → World → Prop} (hgd : o.guard = none) (t e : TypeId) (x : Operand) (ho : o.op = .buildSlice t 1 #[(0, x)])
  (z : Value) (sz : Nat) (ht : P.underlying t = some (.slice e)) (hinfo : (P.info? e).map (fun i => (i.zero, i.size)) = some (some z, sz)) (hpos : 0 < sz) (hsm : sz ≤ 16777216) (SX : List Value) (hl : SX.length = sz) (hx : a.eval x = .agg SX.toArray)
  (h : wpList P ops Q rest (a.put o.dst (.slice (some ⟨w.heap.size, 0, none⟩) 1 1)) (w.alloc (.cells SX.toArray e))) : wpList P ops Q (o :: rest) a w :=
 wpList_plain hgd fun K hK => by
  have hr := run_box (P := P) w t e z sz ht hinfo hpos hsm SX hl
  unfold Oper.wp execOp
  simp only [ho, Sem.run_bind, List.map_toArray, List.map_cons, List.map_nil, hx, hr, Result.andThen_ok]
  exact hK _ _ h
end
structure BoxTwo (w wr : World) (b : Nat) (T : TypeId) (cs : List Value) (e : TypeId) (s : Nat) (A : Option Addr) (n c : Nat) (xs : List Value) (f : TypeId) (t : Nat) (B : Option Addr) (m d : Nat) (ys : List Value) : Prop where
 two : Two w wr e s A n c xs f t B m d ys
 blk : Blk wr b T cs
 lo : w.heap.size ≤ b
 na : (Value.slice A n c).ownBlock ≠ some b
 nb : (Value.slice B m d).ownBlock ≠ some b
section
variable {w wr w' : World} {b : Nat} {T e f : TypeId} {cs : List Value} {s t : Nat} {A B : Option Addr} {n c m d : Nat} {xs ys : List Value}
theorem BoxTwo.swap (h : BoxTwo w wr b T cs e s A n c xs f t B m d ys) : BoxTwo w wr b T cs f t B m d ys e s A n c xs := ⟨h.two.swap, h.blk, h.lo, h.nb, h.na⟩
theorem BoxTwo.keep (h : BoxTwo w wr b T cs e s A n c xs f t B m d ys) (hk : Keeps (fun _ => False) wr w') : BoxTwo w w' b T cs e s A n c xs f t B m d ys := ⟨h.two.keep hk, hk.blk h.blk (fun h => h), h.lo, h.na, h.nb⟩
theorem BoxTwo.app {A' : Option Addr} {k c' : Nat} {zs : List Value} (h : BoxTwo w wr b T cs e s A n c xs f t B m d ys) (ho : w'.ownsRow 0 e s (.slice A' k c') k zs) (hg : wr.grownBy w' (Value.slice A n c).ownBlock)
  (hb : (Value.slice A' k c').ownBlock = (Value.slice A n c).ownBlock ∨ (Value.slice A' k c').ownBlock = some wr.heap.size) : BoxTwo w w' b T cs e s A' k c' zs f t B m d ys := by
 refine ⟨h.two.grown ho hg hb, (Keeps.of_grown hg).blk h.blk h.na, h.lo, ?_, h.nb⟩
 have hlt := h.blk.lt
 rcases hb with h1 | h1
 ·rw [h1]; exact h.na
 ·rw [h1]; intro h2; injection h2 with h2; omega
theorem BoxTwo.set (h : BoxTwo w wr b T cs e s A n c xs f t B m d ys) (i : Nat) (v : Value) : BoxTwo w (wr.setCell ⟨b, i, none⟩ v) b T (cs.set i v) e s A n c xs f t B m d ys := by
 have hk : Keeps (fun j => j = b) wr (wr.setCell ⟨b, i, none⟩ v) := (Keeps.refl (fun j => j = b) wr).setCell (p := ⟨b, i, none⟩) (.inl rfl) v
 have hw : Keeps (fun _ => False) w (wr.setCell ⟨b, i, none⟩ v) := h.two.a.2.1.setCell (p := ⟨b, i, none⟩) (.inr h.lo) v
 exact ⟨⟨⟨hk.own h.two.a.1 (fun g hg e => h.na (by rw [hg, e])), hw, h.two.a.2.2⟩, ⟨hk.own h.two.b.1 (fun g hg e => h.nb (by rw [hg, e])), hw, h.two.b.2.2⟩, h.two.ap⟩, h.blk.set_ i v, h.lo, h.na, h.nb⟩
theorem BoxTwo.start (w : World) (T e f : TypeId) (s t : Nat) {w1 : World} (hk : Keeps (fun _ => False) w w1) (cs : List Value) : BoxTwo w (w1.alloc (.cells cs.toArray T)) w1.heap.size T cs e s none 0 0 [] f t none 0 0 [] :=
 ⟨⟨(MineS.nil s w e).keep (hk.alloc _), (MineS.nil t w f).keep (hk.alloc _), fun g h => by simp [Value.ownBlock] at h⟩, Blk.new w1 T cs, hk.size, by simp [Value.ownBlock], by simp [Value.ownBlock]⟩
theorem BoxTwo.hold (h : BoxTwo w wr b T cs e s A n c xs f t B m d ys) : Keeps (fun _ => False) w wr := h.two.a.2.1
end
end Go.Aff
namespace Go.Proofs.YtplleficmkfniaaGreatDoor
open Go Go.RowKit Go.Aff Go.Json
theorem as_null_null (v : Value) (w : World) : (Instr.typeAssert (.iface 217 v) 93 217 true).run Tryz.prog w = .ok (.tuple #[v, .bool true]) w := by kernel_rfl
theorem as_null_list (v : Value) (w : World) : (Instr.typeAssert (.iface 217 v) 93 186 true).run Tryz.prog w = .ok (.tuple #[.pointer none, .bool false]) w := by kernel_rfl
theorem as_null_obj (v : Value) (w : World) : (Instr.typeAssert (.iface 217 v) 93 187 true).run Tryz.prog w = .ok (.tuple #[.pointer none, .bool false]) w := by kernel_rfl
theorem as_flag_null (v : Value) (w : World) : (Instr.typeAssert (.iface 218 v) 93 217 true).run Tryz.prog w = .ok (.tuple #[.agg #[], .bool false]) w := by kernel_rfl
theorem as_flag_flag (v : Value) (w : World) : (Instr.typeAssert (.iface 218 v) 93 218 true).run Tryz.prog w = .ok (.tuple #[v, .bool true]) w := by kernel_rfl
theorem as_flag_list (v : Value) (w : World) : (Instr.typeAssert (.iface 218 v) 93 186 true).run Tryz.prog w = .ok (.tuple #[.pointer none, .bool false]) w := by kernel_rfl
theorem as_flag_obj (v : Value) (w : World) : (Instr.typeAssert (.iface 218 v) 93 187 true).run Tryz.prog w = .ok (.tuple #[.pointer none, .bool false]) w := by kernel_rfl
theorem as_num_null (v : Value) (w : World) : (Instr.typeAssert (.iface 223 v) 93 217 true).run Tryz.prog w = .ok (.tuple #[.agg #[], .bool false]) w := by kernel_rfl
theorem as_num_flag (v : Value) (w : World) : (Instr.typeAssert (.iface 223 v) 93 218 true).run Tryz.prog w = .ok (.tuple #[.bool false, .bool false]) w := by kernel_rfl
theorem as_num_num (v : Value) (w : World) : (Instr.typeAssert (.iface 223 v) 93 223 true).run Tryz.prog w = .ok (.tuple #[v, .bool true]) w := by kernel_rfl
theorem as_num_list (v : Value) (w : World) : (Instr.typeAssert (.iface 223 v) 93 186 true).run Tryz.prog w = .ok (.tuple #[.pointer none, .bool false]) w := by kernel_rfl
theorem as_num_obj (v : Value) (w : World) : (Instr.typeAssert (.iface 223 v) 93 187 true).run Tryz.prog w = .ok (.tuple #[.pointer none, .bool false]) w := by kernel_rfl
theorem as_text_null (v : Value) (w : World) : (Instr.typeAssert (.iface 224 v) 93 217 true).run Tryz.prog w = .ok (.tuple #[.agg #[], .bool false]) w := by kernel_rfl
theorem as_text_flag (v : Value) (w : World) : (Instr.typeAssert (.iface 224 v) 93 218 true).run Tryz.prog w = .ok (.tuple #[.bool false, .bool false]) w := by kernel_rfl
theorem as_text_num (v : Value) (w : World) : (Instr.typeAssert (.iface 224 v) 93 223 true).run Tryz.prog w = .ok (.tuple #[.float .f64 0, .bool false]) w := by kernel_rfl
theorem as_text_text (v : Value) (w : World) : (Instr.typeAssert (.iface 224 v) 93 224 true).run Tryz.prog w = .ok (.tuple #[v, .bool true]) w := by kernel_rfl
theorem as_text_list (v : Value) (w : World) : (Instr.typeAssert (.iface 224 v) 93 186 true).run Tryz.prog w = .ok (.tuple #[.pointer none, .bool false]) w := by kernel_rfl
theorem as_text_obj (v : Value) (w : World) : (Instr.typeAssert (.iface 224 v) 93 187 true).run Tryz.prog w = .ok (.tuple #[.pointer none, .bool false]) w := by kernel_rfl
theorem as_list_null (v : Value) (w : World) : (Instr.typeAssert (.iface 186 v) 93 217 true).run Tryz.prog w = .ok (.tuple #[.agg #[], .bool false]) w := by kernel_rfl
theorem as_list_flag (v : Value) (w : World) : (Instr.typeAssert (.iface 186 v) 93 218 true).run Tryz.prog w = .ok (.tuple #[.bool false, .bool false]) w := by kernel_rfl
theorem as_list_num (v : Value) (w : World) : (Instr.typeAssert (.iface 186 v) 93 223 true).run Tryz.prog w = .ok (.tuple #[.float .f64 0, .bool false]) w := by kernel_rfl
theorem as_list_text (v : Value) (w : World) : (Instr.typeAssert (.iface 186 v) 93 224 true).run Tryz.prog w = .ok (.tuple #[.string ⟨#[]⟩, .bool false]) w := by kernel_rfl
theorem as_list_list (v : Value) (w : World) : (Instr.typeAssert (.iface 186 v) 93 186 true).run Tryz.prog w = .ok (.tuple #[v, .bool true]) w := by kernel_rfl
theorem as_list_obj (v : Value) (w : World) : (Instr.typeAssert (.iface 186 v) 93 187 true).run Tryz.prog w = .ok (.tuple #[.pointer none, .bool false]) w := by kernel_rfl
theorem as_obj_null (v : Value) (w : World) : (Instr.typeAssert (.iface 187 v) 93 217 true).run Tryz.prog w = .ok (.tuple #[.agg #[], .bool false]) w := by kernel_rfl
theorem as_obj_flag (v : Value) (w : World) : (Instr.typeAssert (.iface 187 v) 93 218 true).run Tryz.prog w = .ok (.tuple #[.bool false, .bool false]) w := by kernel_rfl
theorem as_obj_num (v : Value) (w : World) : (Instr.typeAssert (.iface 187 v) 93 223 true).run Tryz.prog w = .ok (.tuple #[.float .f64 0, .bool false]) w := by kernel_rfl
theorem as_obj_text (v : Value) (w : World) : (Instr.typeAssert (.iface 187 v) 93 224 true).run Tryz.prog w = .ok (.tuple #[.string ⟨#[]⟩, .bool false]) w := by kernel_rfl
theorem as_obj_list (v : Value) (w : World) : (Instr.typeAssert (.iface 187 v) 93 186 true).run Tryz.prog w = .ok (.tuple #[.pointer none, .bool false]) w := by kernel_rfl
theorem as_obj_obj (v : Value) (w : World) : (Instr.typeAssert (.iface 187 v) 93 187 true).run Tryz.prog w = .ok (.tuple #[v, .bool true]) w := by kernel_rfl
theorem at_errno_errno (v : Value) (w : World) : (Instr.typeAssert (.iface 85 v) 32 85 false).run Tryz.prog w = .ok v w := by kernel_rfl
theorem rec_errno (v : Value) (w : World) : (Instr.typeAssert (.iface 85 v) 20 85 false).run Tryz.prog w = .ok v w := by kernel_rfl
theorem within_any (w : World) (n b d : Int) : Calls Tryz.prog 164 #[.agg #[.int .i64 n, .int .i64 b, .int .i64 d]] w fun e w' => e = .returned (.bool (decide (n ≤ 65536) && (decide (b ≤ 2097152) && decide (d ≤ 512)))) ∧ Keeps (fun _ => False) w w' := by
 have hb := Blk.new w 228 [.int .i64 n, .int .i64 b, .int .i64 d]
 have c0 := hb.cell 0
 have c1 := hb.cell 1
 have c2 := hb.cell 2
 have HK := H_ ((Keeps.refl (fun _ => False) w).alloc (.cells #[.int .i64 n, .int .i64 b, .int .i64 d] 228))
 clear hb
 by_cases h1 : n ≤ 65536
 ·by_cases h2 : b ≤ 2097152
  ·go_enter Tryz.func164, Tryz.ntmps164
   go_wp2
   go_ret
   exact ⟨by first | (simp [h1, h2]; done) | (simp [h1, h2]; omega), HK.out⟩
  ·go_enter Tryz.func164, Tryz.ntmps164
   go_wp2
   go_ret
   exact ⟨by first | (simp [h1, h2]; done) | (simp [h1, h2]; omega), HK.out⟩
 ·go_enter Tryz.func164, Tryz.ntmps164
  go_wp2
  go_ret
  exact ⟨by simp [h1]; omega, HK.out⟩
theorem refuse_ok (w : World) (k : Int) : Calls Tryz.prog 107 #[.bool true, .int .i64 k] w fun e w' => e = .returned (.tuple #[]) ∧ w' = w := by
 go_enter Tryz.func107, Tryz.ntmps107
 go_wp2
 go_end0
 exact ⟨rfl, rfl⟩
theorem str_empty (tx : ByteArray) : tx.toList.isEmpty = decide (tx.size = 0) := by
 rw [ByteArray.toList_eq, Bool.eq_iff_iff, decide_eq_true_iff, List.isEmpty_iff]
 constructor
 ·intro h
  exact congrArg List.length h
 ·intro h
  exact List.length_eq_zero_iff.1 h
def stepV (s : StepV) (A : Option Addr) (c : Nat) : List Value := [.int .i64 s.sort, .bool s.flag, .int .u64 s.bits, .string s.text, .int .i64 s.count, .slice A s.keys.length c]
theorem used_walk (w : World) (so : Int) (fl : Bool) (bi : Nat) (tx : ByteArray) (cn : Int) (A : Option Addr) (n c : Nat) (b1 b2 b3 e2 e3 e4 e5 e6 z te cz nz : Bool)
  (h1 : decide (1 ≤ so) = b1) (h2 : decide (so ≤ 6) = b2) (h3 : decide (0 ≤ cn) = b3) (k2 : (so == 2) = e2) (k3 : (so == 3) = e3) (k4 : (so == 4) = e4) (k5 : (so == 5) = e5) (k6 : (so == 6) = e6)
  (hz : ((bi : Int) == 0) = z) (he : tx.toList.isEmpty = te) (hc : (cn == 0) = cz) (hn : ((n : Int) == 0) = nz) :
  Calls Tryz.prog 108 #[.agg #[.int .i64 so, .bool fl, .int .u64 bi, .string tx, .int .i64 cn, .slice A n c]] w fun e w' => e = .returned (.bool (((b1 && b2 && b3) && ((!fl || e2) && (z || e3) && (te || e4))) && ((cz || e5) && (nz || e6)))) ∧ Keeps (fun _ => False) w w' := by
 have hb := Blk.new w 131 [.int .i64 so, .bool fl, .int .u64 bi, .string tx, .int .i64 cn, .slice A n c]
 have c0 := hb.cell 0
 have c1 := hb.cell 1
 have c2 := hb.cell 2
 have c3 := hb.cell 3
 have c4 := hb.cell 4
 have c5 := hb.cell 5
 have HK := H_ ((Keeps.refl (fun _ => False) w).alloc (.cells #[.int .i64 so, .bool fl, .int .u64 bi, .string tx, .int .i64 cn, .slice A n c] 131))
 clear hb
 go_enter Tryz.func108, Tryz.ntmps108
 go_upto_region 1 with fail
 go_cut [3] (fun t wx => t = .bool (b1 && b2 && b3) ∧ wx = w.alloc (.cells #[.int .i64 so, .bool fl, .int .u64 bi, .string tx, .int .i64 cn, .slice A n c] 131))
 case first =>
  rcases b1 with _ | _
  ·go_wp2
   go_meet
   exact ⟨rfl, rfl⟩
  ·rcases b2 with _ | _
   ·go_wp2
    go_meet
    exact ⟨rfl, rfl⟩
   ·go_wp2
    go_meet
    exact ⟨rfl, rfl⟩
 case rest =>
  obtain ⟨rfl, rfl⟩ := hcut
  obtain ⟨q1, hq1⟩ : ∃ q1, q1 = (b1 && b2 && b3) := ⟨_, rfl⟩
  rw [← hq1]
  have HQ1 := H_ hq1
  clear hq1 h1 h2 h3
  go_upto_region 2 with fail
  go_cut [3] (fun t wx => t = .bool (q1 && ((!fl || e2) && (z || e3) && (te || e4))) ∧ wx = w.alloc (.cells #[.int .i64 so, .bool fl, .int .u64 bi, .string tx, .int .i64 cn, .slice A n c] 131))
  case first =>
   clear k5 k6 hc hn
   rcases q1 with _ | _
   ·go_wp2
    go_meet
    exact ⟨rfl, rfl⟩
   ·have hfl : (!fl) = !fl := rfl
    rcases fl with _ | _
    ·rcases z with _ | _
     ·rcases e3 with _ | _
      ·go_wp2
       go_meet
       exact ⟨rfl, rfl⟩
      ·rcases te with _ | _ <;> rcases e4 with _ | _ <;> (go_wp2; go_meet; exact ⟨rfl, rfl⟩)
     ·rcases te with _ | _ <;> rcases e4 with _ | _ <;> (go_wp2; go_meet; exact ⟨rfl, rfl⟩)
    ·rcases e2 with _ | _
     ·go_wp2
      go_meet
      exact ⟨rfl, rfl⟩
     ·rcases z with _ | _
      ·rcases e3 with _ | _
       ·go_wp2
        go_meet
        exact ⟨rfl, rfl⟩
       ·rcases te with _ | _ <;> rcases e4 with _ | _ <;> (go_wp2; go_meet; exact ⟨rfl, rfl⟩)
      ·rcases te with _ | _ <;> rcases e4 with _ | _ <;> (go_wp2; go_meet; exact ⟨rfl, rfl⟩)
  case rest =>
   obtain ⟨rfl, rfl⟩ := hcut
   obtain ⟨q2, hq2⟩ : ∃ q2, q2 = (q1 && ((!fl || e2) && (z || e3) && (te || e4))) := ⟨_, rfl⟩
   rw [← hq2]
   have HQ2 := H_ hq2
   clear hq2 k2 k3 k4 hz he
   go_upto_region 3 with fail
   rcases q2 with _ | _
   ·go_wp2
    go_ret
    exact ⟨by rw [← HQ1.out, ← HQ2.out]; rfl, HK.out⟩
   ·rcases cz with _ | _
    ·rcases e5 with _ | _
     ·go_wp2
      go_ret
      exact ⟨by rw [← HQ1.out, ← HQ2.out]; rfl, HK.out⟩
     ·rcases nz with _ | _ <;> rcases e6 with _ | _ <;> (go_wp2; go_ret; exact ⟨by rw [← HQ1.out, ← HQ2.out]; rfl, HK.out⟩)
    ·rcases nz with _ | _ <;> rcases e6 with _ | _ <;> (go_wp2; go_ret; exact ⟨by rw [← HQ1.out, ← HQ2.out]; rfl, HK.out⟩)
theorem used_any (w : World) (s : StepV) (A : Option Addr) (c : Nat) : Calls Tryz.prog 108 #[.agg (stepV s A c).toArray] w fun e w' => e = .returned (.bool (usedF s)) ∧ Keeps (fun _ => False) w w' := by
 obtain ⟨so, fl, bi, tx, cn, ks⟩ := s
 have h := used_walk w so fl bi tx cn A ks.length c _ _ _ _ _ _ _ _ _ _ _ _ rfl rfl rfl rfl rfl rfl rfl rfl rfl (str_empty tx) rfl rfl
 refine h.mono fun e w' hh => ⟨hh.1.trans ?_, hh.2⟩
 congr 2
 have hi : ∀ a b : Int, (a == b) = decide (a = b) := fun a b => by rw [Bool.eq_iff_iff]; simp
 have h1 : decide ((bi : Int) = 0) = decide (bi = 0) := by simp
 have h2 : decide ((ks.length : Int) = 0) = decide (ks.length = 0) := by rw [Bool.eq_iff_iff]; simp
 simp only [usedF, hi, h1, h2, Bool.and_assoc]
end Go.Proofs.YtplleficmkfniaaGreatDoor
