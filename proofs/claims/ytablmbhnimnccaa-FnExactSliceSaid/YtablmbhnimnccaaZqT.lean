/- The table of the types, written by a program. No condition. -/
import Derived.Test.YtablmbhnimnccaaProg
import Derived.Test.YtablmbhnimnccaaZqStep
set_option maxRecDepth 20000
namespace Go.Proofs.Ytablmbhnimnccaa.Pw
def y1 : TI := ⟨1, 8, Go.Value.nilFunc, .sca⟩
theorem e1 : Ent Go.Proofs.Try.prog (1, y1) := ent_sca Go.Proofs.Try.type1 Go.Proofs.Try.underlying1 rfl rfl rfl rfl rfl rfl ⟨fun _ h => (by cases h), fun _ _ h => (by cases h)⟩
def y2 : TI := ⟨1, 8, (Go.Value.int Go.IntKind.i64 0), .int Go.IntKind.i64⟩
theorem e2 : Ent Go.Proofs.Try.prog (2, y2) := ent_sca Go.Proofs.Try.type2 Go.Proofs.Try.underlying2 rfl rfl rfl rfl rfl rfl rfl
def y3 : TI := ⟨1, 8, (Go.Value.int Go.IntKind.i64 0), .int Go.IntKind.i64⟩
theorem e3 : Ent Go.Proofs.Try.prog (3, y3) := ent_sca Go.Proofs.Try.type3 Go.Proofs.Try.underlying3 rfl rfl rfl rfl rfl rfl rfl
def y4 : TI := ⟨1, 1, (Go.Value.bool false), .bool⟩
theorem e4 : Ent Go.Proofs.Try.prog (4, y4) := ent_sca Go.Proofs.Try.type4 Go.Proofs.Try.underlying4 rfl rfl rfl rfl rfl rfl rfl
def y5 : TI := ⟨1, 1, (Go.Value.int Go.IntKind.u8 0), .int Go.IntKind.u8⟩
theorem e5 : Ent Go.Proofs.Try.prog (5, y5) := ent_sca Go.Proofs.Try.type5 Go.Proofs.Try.underlying5 rfl rfl rfl rfl rfl rfl rfl
def y6 : TI := ⟨1, 1, (Go.Value.int Go.IntKind.u8 0), .int Go.IntKind.u8⟩
theorem e6 : Ent Go.Proofs.Try.prog (6, y6) := ent_sca Go.Proofs.Try.type6 Go.Proofs.Try.underlying6 rfl rfl rfl rfl rfl rfl rfl
def y7 : TI := ⟨4, 24, (Go.Value.agg #[(Go.Value.int Go.IntKind.i64 0), (Go.Value.int Go.IntKind.i64 0), (Go.Value.bool false), (Go.Value.int Go.IntKind.u8 0)]), .st [(0, 1), (1, 1), (2, 1), (3, 1)]⟩
theorem e7 : Ent Go.Proofs.Try.prog (7, y7) := ent_agg [(Go.Value.int Go.IntKind.i64 0), (Go.Value.int Go.IntKind.i64 0), (Go.Value.bool false), (Go.Value.int Go.IntKind.u8 0)] Go.Proofs.Try.type7 Go.Proofs.Try.underlying7 rfl rfl rfl rfl rfl rfl rfl ⟨_, rfl, rfl, fun j o s hj => by
    match j, hj with
    | 0, hj => cases hj; exact ⟨_, rfl, rfl, fld rfl Go.Proofs.Try.type2 rfl, by decide⟩
    | 1, hj => cases hj; exact ⟨_, rfl, rfl, fld rfl Go.Proofs.Try.type3 rfl, by decide⟩
    | 2, hj => cases hj; exact ⟨_, rfl, rfl, fld rfl Go.Proofs.Try.type4 rfl, by decide⟩
    | 3, hj => cases hj; exact ⟨_, rfl, rfl, fld rfl Go.Proofs.Try.type6 rfl, by decide⟩
    | j + 4, hj => cases hj⟩
def y8 : TI := ⟨4, 24, (Go.Value.agg #[(Go.Value.int Go.IntKind.i64 0), (Go.Value.int Go.IntKind.i64 0), (Go.Value.bool false), (Go.Value.int Go.IntKind.u8 0)]), .st [(0, 1), (1, 1), (2, 1), (3, 1)]⟩
theorem e8 : Ent Go.Proofs.Try.prog (8, y8) := ent_agg [(Go.Value.int Go.IntKind.i64 0), (Go.Value.int Go.IntKind.i64 0), (Go.Value.bool false), (Go.Value.int Go.IntKind.u8 0)] Go.Proofs.Try.type8 Go.Proofs.Try.underlying8 rfl rfl rfl rfl rfl rfl rfl ⟨_, rfl, rfl, fun j o s hj => by
    match j, hj with
    | 0, hj => cases hj; exact ⟨_, rfl, rfl, fld rfl Go.Proofs.Try.type2 rfl, by decide⟩
    | 1, hj => cases hj; exact ⟨_, rfl, rfl, fld rfl Go.Proofs.Try.type3 rfl, by decide⟩
    | 2, hj => cases hj; exact ⟨_, rfl, rfl, fld rfl Go.Proofs.Try.type4 rfl, by decide⟩
    | 3, hj => cases hj; exact ⟨_, rfl, rfl, fld rfl Go.Proofs.Try.type6 rfl, by decide⟩
    | j + 4, hj => cases hj⟩
def y9 : TI := ⟨1, 16, (Go.Value.string { data := #[] }), .str⟩
theorem e9 : Ent Go.Proofs.Try.prog (9, y9) := ent_sca Go.Proofs.Try.type9 Go.Proofs.Try.underlying9 rfl rfl rfl rfl rfl rfl rfl
def y10 : TI := ⟨1, 16, (Go.Value.string { data := #[] }), .str⟩
theorem e10 : Ent Go.Proofs.Try.prog (10, y10) := ent_sca Go.Proofs.Try.type10 Go.Proofs.Try.underlying10 rfl rfl rfl rfl rfl rfl rfl
def y11 : TI := ⟨1, 16, (Go.Value.string { data := #[] }), .str⟩
theorem e11 : Ent Go.Proofs.Try.prog (11, y11) := ent_sca Go.Proofs.Try.type11 Go.Proofs.Try.underlying11 rfl rfl rfl rfl rfl rfl rfl
def y12 : TI := ⟨1, 8, (Go.Value.int Go.IntKind.u64 0), .int Go.IntKind.u64⟩
theorem e12 : Ent Go.Proofs.Try.prog (12, y12) := ent_sca Go.Proofs.Try.type12 Go.Proofs.Try.underlying12 rfl rfl rfl rfl rfl rfl rfl
def y13 : TI := ⟨2, 24, (Go.Value.agg #[(Go.Value.string { data := #[] }), (Go.Value.int Go.IntKind.u64 0)]), .st [(0, 1), (1, 1)]⟩
theorem e13 : Ent Go.Proofs.Try.prog (13, y13) := ent_agg [(Go.Value.string { data := #[] }), (Go.Value.int Go.IntKind.u64 0)] Go.Proofs.Try.type13 Go.Proofs.Try.underlying13 rfl rfl rfl rfl rfl rfl rfl ⟨_, rfl, rfl, fun j o s hj => by
    match j, hj with
    | 0, hj => cases hj; exact ⟨_, rfl, rfl, fld rfl Go.Proofs.Try.type9 rfl, by decide⟩
    | 1, hj => cases hj; exact ⟨_, rfl, rfl, fld rfl Go.Proofs.Try.type12 rfl, by decide⟩
    | j + 2, hj => cases hj⟩
def y14 : TI := ⟨2, 24, (Go.Value.agg #[(Go.Value.string { data := #[] }), (Go.Value.int Go.IntKind.u64 0)]), .st [(0, 1), (1, 1)]⟩
theorem e14 : Ent Go.Proofs.Try.prog (14, y14) := ent_agg [(Go.Value.string { data := #[] }), (Go.Value.int Go.IntKind.u64 0)] Go.Proofs.Try.type14 Go.Proofs.Try.underlying14 rfl rfl rfl rfl rfl rfl rfl ⟨_, rfl, rfl, fun j o s hj => by
    match j, hj with
    | 0, hj => cases hj; exact ⟨_, rfl, rfl, fld rfl Go.Proofs.Try.type9 rfl, by decide⟩
    | 1, hj => cases hj; exact ⟨_, rfl, rfl, fld rfl Go.Proofs.Try.type12 rfl, by decide⟩
    | j + 2, hj => cases hj⟩
def y15 : TI := ⟨1, 8, (Go.Value.pointer none), .sca⟩
theorem e15 : Ent Go.Proofs.Try.prog (15, y15) := ent_sca Go.Proofs.Try.type15 Go.Proofs.Try.underlying15 rfl rfl rfl rfl rfl rfl ⟨fun _ h => (by cases h), fun _ _ h => (by cases h)⟩
def y16 : TI := ⟨1, 8, (Go.Value.pointer none), .sca⟩
theorem e16 : Ent Go.Proofs.Try.prog (16, y16) := ent_sca Go.Proofs.Try.type16 Go.Proofs.Try.underlying16 rfl rfl rfl rfl rfl rfl ⟨fun _ h => (by cases h), fun _ _ h => (by cases h)⟩
def y17 : TI := ⟨1, 8, (Go.Value.pointer none), .sca⟩
theorem e17 : Ent Go.Proofs.Try.prog (17, y17) := ent_sca Go.Proofs.Try.type17 Go.Proofs.Try.underlying17 rfl rfl rfl rfl rfl rfl ⟨fun _ h => (by cases h), fun _ _ h => (by cases h)⟩
def y18 : TI := ⟨1, 8, (Go.Value.agg #[(Go.Value.pointer none)]), .st [(0, 1)]⟩
theorem e18 : Ent Go.Proofs.Try.prog (18, y18) := ent_agg [(Go.Value.pointer none)] Go.Proofs.Try.type18 Go.Proofs.Try.underlying18 rfl rfl rfl rfl rfl rfl rfl ⟨_, rfl, rfl, fun j o s hj => by
    match j, hj with
    | 0, hj => cases hj; exact ⟨_, rfl, rfl, fld rfl Go.Proofs.Try.type17 rfl, by decide⟩
    | j + 1, hj => cases hj⟩
def y19 : TI := ⟨1, 8, (Go.Value.agg #[(Go.Value.pointer none)]), .st [(0, 1)]⟩
theorem e19 : Ent Go.Proofs.Try.prog (19, y19) := ent_agg [(Go.Value.pointer none)] Go.Proofs.Try.type19 Go.Proofs.Try.underlying19 rfl rfl rfl rfl rfl rfl rfl ⟨_, rfl, rfl, fun j o s hj => by
    match j, hj with
    | 0, hj => cases hj; exact ⟨_, rfl, rfl, fld rfl Go.Proofs.Try.type17 rfl, by decide⟩
    | j + 1, hj => cases hj⟩
def y21 : TI := ⟨1, 4, (Go.Value.int Go.IntKind.i32 0), .int Go.IntKind.i32⟩
theorem e21 : Ent Go.Proofs.Try.prog (21, y21) := ent_sca Go.Proofs.Try.type21 Go.Proofs.Try.underlying21 rfl rfl rfl rfl rfl rfl rfl
def y22 : TI := ⟨4, 32, (Go.Value.agg #[(Go.Value.int Go.IntKind.i64 0), (Go.Value.int Go.IntKind.i64 0), (Go.Value.int Go.IntKind.i64 0), (Go.Value.int Go.IntKind.i64 0)]), .st [(0, 1), (1, 1), (2, 1), (3, 1)]⟩
theorem e22 : Ent Go.Proofs.Try.prog (22, y22) := ent_agg [(Go.Value.int Go.IntKind.i64 0), (Go.Value.int Go.IntKind.i64 0), (Go.Value.int Go.IntKind.i64 0), (Go.Value.int Go.IntKind.i64 0)] Go.Proofs.Try.type22 Go.Proofs.Try.underlying22 rfl rfl rfl rfl rfl rfl rfl ⟨_, rfl, rfl, fun j o s hj => by
    match j, hj with
    | 0, hj => cases hj; exact ⟨_, rfl, rfl, fld rfl Go.Proofs.Try.type3 rfl, by decide⟩
    | 1, hj => cases hj; exact ⟨_, rfl, rfl, fld rfl Go.Proofs.Try.type3 rfl, by decide⟩
    | 2, hj => cases hj; exact ⟨_, rfl, rfl, fld rfl Go.Proofs.Try.type3 rfl, by decide⟩
    | 3, hj => cases hj; exact ⟨_, rfl, rfl, fld rfl Go.Proofs.Try.type3 rfl, by decide⟩
    | j + 4, hj => cases hj⟩
def y23 : TI := ⟨4, 32, (Go.Value.agg #[(Go.Value.int Go.IntKind.i64 0), (Go.Value.int Go.IntKind.i64 0), (Go.Value.int Go.IntKind.i64 0), (Go.Value.int Go.IntKind.i64 0)]), .st [(0, 1), (1, 1), (2, 1), (3, 1)]⟩
theorem e23 : Ent Go.Proofs.Try.prog (23, y23) := ent_agg [(Go.Value.int Go.IntKind.i64 0), (Go.Value.int Go.IntKind.i64 0), (Go.Value.int Go.IntKind.i64 0), (Go.Value.int Go.IntKind.i64 0)] Go.Proofs.Try.type23 Go.Proofs.Try.underlying23 rfl rfl rfl rfl rfl rfl rfl ⟨_, rfl, rfl, fun j o s hj => by
    match j, hj with
    | 0, hj => cases hj; exact ⟨_, rfl, rfl, fld rfl Go.Proofs.Try.type3 rfl, by decide⟩
    | 1, hj => cases hj; exact ⟨_, rfl, rfl, fld rfl Go.Proofs.Try.type3 rfl, by decide⟩
    | 2, hj => cases hj; exact ⟨_, rfl, rfl, fld rfl Go.Proofs.Try.type3 rfl, by decide⟩
    | 3, hj => cases hj; exact ⟨_, rfl, rfl, fld rfl Go.Proofs.Try.type3 rfl, by decide⟩
    | j + 4, hj => cases hj⟩
def y24 : TI := ⟨1, 24, (Go.Value.slice none 0 0), .sl 26⟩
theorem e24 : Ent Go.Proofs.Try.prog (24, y24) := ent_sca Go.Proofs.Try.type24 Go.Proofs.Try.underlying24 rfl rfl rfl rfl rfl rfl rfl
def y25 : TI := ⟨6, 64, (Go.Value.agg #[(Go.Value.bool false), (Go.Value.int Go.IntKind.i64 0), (Go.Value.int Go.IntKind.i64 0), (Go.Value.int Go.IntKind.i64 0), (Go.Value.int Go.IntKind.i64 0), (Go.Value.slice none 0 0)]), .st [(0, 1), (1, 4), (5, 1)]⟩
theorem e25 : Ent Go.Proofs.Try.prog (25, y25) := ent_agg [(Go.Value.bool false), (Go.Value.int Go.IntKind.i64 0), (Go.Value.int Go.IntKind.i64 0), (Go.Value.int Go.IntKind.i64 0), (Go.Value.int Go.IntKind.i64 0), (Go.Value.slice none 0 0)] Go.Proofs.Try.type25 Go.Proofs.Try.underlying25 rfl rfl rfl rfl rfl rfl rfl ⟨_, rfl, rfl, fun j o s hj => by
    match j, hj with
    | 0, hj => cases hj; exact ⟨_, rfl, rfl, fld rfl Go.Proofs.Try.type4 rfl, by decide⟩
    | 1, hj => cases hj; exact ⟨_, rfl, rfl, fld rfl Go.Proofs.Try.type23 rfl, by decide⟩
    | 2, hj => cases hj; exact ⟨_, rfl, rfl, fld rfl Go.Proofs.Try.type24 rfl, by decide⟩
    | j + 3, hj => cases hj⟩
def y26 : TI := ⟨6, 64, (Go.Value.agg #[(Go.Value.bool false), (Go.Value.int Go.IntKind.i64 0), (Go.Value.int Go.IntKind.i64 0), (Go.Value.int Go.IntKind.i64 0), (Go.Value.int Go.IntKind.i64 0), (Go.Value.slice none 0 0)]), .st [(0, 1), (1, 4), (5, 1)]⟩
theorem e26 : Ent Go.Proofs.Try.prog (26, y26) := ent_agg [(Go.Value.bool false), (Go.Value.int Go.IntKind.i64 0), (Go.Value.int Go.IntKind.i64 0), (Go.Value.int Go.IntKind.i64 0), (Go.Value.int Go.IntKind.i64 0), (Go.Value.slice none 0 0)] Go.Proofs.Try.type26 Go.Proofs.Try.underlying26 rfl rfl rfl rfl rfl rfl rfl ⟨_, rfl, rfl, fun j o s hj => by
    match j, hj with
    | 0, hj => cases hj; exact ⟨_, rfl, rfl, fld rfl Go.Proofs.Try.type4 rfl, by decide⟩
    | 1, hj => cases hj; exact ⟨_, rfl, rfl, fld rfl Go.Proofs.Try.type23 rfl, by decide⟩
    | 2, hj => cases hj; exact ⟨_, rfl, rfl, fld rfl Go.Proofs.Try.type24 rfl, by decide⟩
    | j + 3, hj => cases hj⟩
def y27 : TI := ⟨3, 24, (Go.Value.agg #[(Go.Value.int Go.IntKind.i64 0), (Go.Value.int Go.IntKind.i64 0), (Go.Value.int Go.IntKind.i64 0)]), .st [(0, 1), (1, 1), (2, 1)]⟩
theorem e27 : Ent Go.Proofs.Try.prog (27, y27) := ent_agg [(Go.Value.int Go.IntKind.i64 0), (Go.Value.int Go.IntKind.i64 0), (Go.Value.int Go.IntKind.i64 0)] Go.Proofs.Try.type27 Go.Proofs.Try.underlying27 rfl rfl rfl rfl rfl rfl rfl ⟨_, rfl, rfl, fun j o s hj => by
    match j, hj with
    | 0, hj => cases hj; exact ⟨_, rfl, rfl, fld rfl Go.Proofs.Try.type3 rfl, by decide⟩
    | 1, hj => cases hj; exact ⟨_, rfl, rfl, fld rfl Go.Proofs.Try.type3 rfl, by decide⟩
    | 2, hj => cases hj; exact ⟨_, rfl, rfl, fld rfl Go.Proofs.Try.type3 rfl, by decide⟩
    | j + 3, hj => cases hj⟩
def y28 : TI := ⟨3, 24, (Go.Value.agg #[(Go.Value.int Go.IntKind.i64 0), (Go.Value.int Go.IntKind.i64 0), (Go.Value.int Go.IntKind.i64 0)]), .st [(0, 1), (1, 1), (2, 1)]⟩
theorem e28 : Ent Go.Proofs.Try.prog (28, y28) := ent_agg [(Go.Value.int Go.IntKind.i64 0), (Go.Value.int Go.IntKind.i64 0), (Go.Value.int Go.IntKind.i64 0)] Go.Proofs.Try.type28 Go.Proofs.Try.underlying28 rfl rfl rfl rfl rfl rfl rfl ⟨_, rfl, rfl, fun j o s hj => by
    match j, hj with
    | 0, hj => cases hj; exact ⟨_, rfl, rfl, fld rfl Go.Proofs.Try.type3 rfl, by decide⟩
    | 1, hj => cases hj; exact ⟨_, rfl, rfl, fld rfl Go.Proofs.Try.type3 rfl, by decide⟩
    | 2, hj => cases hj; exact ⟨_, rfl, rfl, fld rfl Go.Proofs.Try.type3 rfl, by decide⟩
    | j + 3, hj => cases hj⟩
def y29 : TI := ⟨1, 8, Go.Value.nilFunc, .sca⟩
theorem e29 : Ent Go.Proofs.Try.prog (29, y29) := ent_sca Go.Proofs.Try.type29 Go.Proofs.Try.underlying29 rfl rfl rfl rfl rfl rfl ⟨fun _ h => (by cases h), fun _ _ h => (by cases h)⟩
def y30 : TI := ⟨1, 8, Go.Value.nilFunc, .sca⟩
theorem e30 : Ent Go.Proofs.Try.prog (30, y30) := ent_sca Go.Proofs.Try.type30 Go.Proofs.Try.underlying30 rfl rfl rfl rfl rfl rfl ⟨fun _ h => (by cases h), fun _ _ h => (by cases h)⟩
def y31 : TI := ⟨4, 32, (Go.Value.agg #[(Go.Value.int Go.IntKind.i64 0), (Go.Value.int Go.IntKind.i64 0), (Go.Value.int Go.IntKind.i64 0), (Go.Value.int Go.IntKind.i64 0)]), .st [(0, 1), (1, 1), (2, 1), (3, 1)]⟩
theorem e31 : Ent Go.Proofs.Try.prog (31, y31) := ent_agg [(Go.Value.int Go.IntKind.i64 0), (Go.Value.int Go.IntKind.i64 0), (Go.Value.int Go.IntKind.i64 0), (Go.Value.int Go.IntKind.i64 0)] Go.Proofs.Try.type31 Go.Proofs.Try.underlying31 rfl rfl rfl rfl rfl rfl rfl ⟨_, rfl, rfl, fun j o s hj => by
    match j, hj with
    | 0, hj => cases hj; exact ⟨_, rfl, rfl, fld rfl Go.Proofs.Try.type3 rfl, by decide⟩
    | 1, hj => cases hj; exact ⟨_, rfl, rfl, fld rfl Go.Proofs.Try.type3 rfl, by decide⟩
    | 2, hj => cases hj; exact ⟨_, rfl, rfl, fld rfl Go.Proofs.Try.type3 rfl, by decide⟩
    | 3, hj => cases hj; exact ⟨_, rfl, rfl, fld rfl Go.Proofs.Try.type3 rfl, by decide⟩
    | j + 4, hj => cases hj⟩
def y32 : TI := ⟨1, 24, (Go.Value.slice none 0 0), .sl 34⟩
theorem e32 : Ent Go.Proofs.Try.prog (32, y32) := ent_sca Go.Proofs.Try.type32 Go.Proofs.Try.underlying32 rfl rfl rfl rfl rfl rfl rfl
def y33 : TI := ⟨6, 64, (Go.Value.agg #[(Go.Value.bool false), (Go.Value.int Go.IntKind.i64 0), (Go.Value.int Go.IntKind.i64 0), (Go.Value.int Go.IntKind.i64 0), (Go.Value.int Go.IntKind.i64 0), (Go.Value.slice none 0 0)]), .st [(0, 1), (1, 4), (5, 1)]⟩
theorem e33 : Ent Go.Proofs.Try.prog (33, y33) := ent_agg [(Go.Value.bool false), (Go.Value.int Go.IntKind.i64 0), (Go.Value.int Go.IntKind.i64 0), (Go.Value.int Go.IntKind.i64 0), (Go.Value.int Go.IntKind.i64 0), (Go.Value.slice none 0 0)] Go.Proofs.Try.type33 Go.Proofs.Try.underlying33 rfl rfl rfl rfl rfl rfl rfl ⟨_, rfl, rfl, fun j o s hj => by
    match j, hj with
    | 0, hj => cases hj; exact ⟨_, rfl, rfl, fld rfl Go.Proofs.Try.type4 rfl, by decide⟩
    | 1, hj => cases hj; exact ⟨_, rfl, rfl, fld rfl Go.Proofs.Try.type31 rfl, by decide⟩
    | 2, hj => cases hj; exact ⟨_, rfl, rfl, fld rfl Go.Proofs.Try.type32 rfl, by decide⟩
    | j + 3, hj => cases hj⟩
def y34 : TI := ⟨6, 64, (Go.Value.agg #[(Go.Value.bool false), (Go.Value.int Go.IntKind.i64 0), (Go.Value.int Go.IntKind.i64 0), (Go.Value.int Go.IntKind.i64 0), (Go.Value.int Go.IntKind.i64 0), (Go.Value.slice none 0 0)]), .st [(0, 1), (1, 4), (5, 1)]⟩
theorem e34 : Ent Go.Proofs.Try.prog (34, y34) := ent_agg [(Go.Value.bool false), (Go.Value.int Go.IntKind.i64 0), (Go.Value.int Go.IntKind.i64 0), (Go.Value.int Go.IntKind.i64 0), (Go.Value.int Go.IntKind.i64 0), (Go.Value.slice none 0 0)] Go.Proofs.Try.type34 Go.Proofs.Try.underlying34 rfl rfl rfl rfl rfl rfl rfl ⟨_, rfl, rfl, fun j o s hj => by
    match j, hj with
    | 0, hj => cases hj; exact ⟨_, rfl, rfl, fld rfl Go.Proofs.Try.type4 rfl, by decide⟩
    | 1, hj => cases hj; exact ⟨_, rfl, rfl, fld rfl Go.Proofs.Try.type31 rfl, by decide⟩
    | 2, hj => cases hj; exact ⟨_, rfl, rfl, fld rfl Go.Proofs.Try.type32 rfl, by decide⟩
    | j + 3, hj => cases hj⟩
def y35 : TI := ⟨1, 8, Go.Value.nilFunc, .sca⟩
theorem e35 : Ent Go.Proofs.Try.prog (35, y35) := ent_sca Go.Proofs.Try.type35 Go.Proofs.Try.underlying35 rfl rfl rfl rfl rfl rfl ⟨fun _ h => (by cases h), fun _ _ h => (by cases h)⟩
def y36 : TI := ⟨3, 24, (Go.Value.agg #[(Go.Value.int Go.IntKind.i64 0), (Go.Value.int Go.IntKind.i64 0), (Go.Value.int Go.IntKind.i64 0)]), .st [(0, 1), (1, 1), (2, 1)]⟩
theorem e36 : Ent Go.Proofs.Try.prog (36, y36) := ent_agg [(Go.Value.int Go.IntKind.i64 0), (Go.Value.int Go.IntKind.i64 0), (Go.Value.int Go.IntKind.i64 0)] Go.Proofs.Try.type36 Go.Proofs.Try.underlying36 rfl rfl rfl rfl rfl rfl rfl ⟨_, rfl, rfl, fun j o s hj => by
    match j, hj with
    | 0, hj => cases hj; exact ⟨_, rfl, rfl, fld rfl Go.Proofs.Try.type3 rfl, by decide⟩
    | 1, hj => cases hj; exact ⟨_, rfl, rfl, fld rfl Go.Proofs.Try.type3 rfl, by decide⟩
    | 2, hj => cases hj; exact ⟨_, rfl, rfl, fld rfl Go.Proofs.Try.type3 rfl, by decide⟩
    | j + 3, hj => cases hj⟩
def y37 : TI := ⟨1, 8, Go.Value.nilFunc, .sca⟩
theorem e37 : Ent Go.Proofs.Try.prog (37, y37) := ent_sca Go.Proofs.Try.type37 Go.Proofs.Try.underlying37 rfl rfl rfl rfl rfl rfl ⟨fun _ h => (by cases h), fun _ _ h => (by cases h)⟩
def y38 : TI := ⟨1, 8, Go.Value.nilFunc, .sca⟩
theorem e38 : Ent Go.Proofs.Try.prog (38, y38) := ent_sca Go.Proofs.Try.type38 Go.Proofs.Try.underlying38 rfl rfl rfl rfl rfl rfl ⟨fun _ h => (by cases h), fun _ _ h => (by cases h)⟩
def y39 : TI := ⟨1, 8, Go.Value.nilFunc, .sca⟩
theorem e39 : Ent Go.Proofs.Try.prog (39, y39) := ent_sca Go.Proofs.Try.type39 Go.Proofs.Try.underlying39 rfl rfl rfl rfl rfl rfl ⟨fun _ h => (by cases h), fun _ _ h => (by cases h)⟩
def y40 : TI := ⟨1, 8, Go.Value.nilFunc, .sca⟩
theorem e40 : Ent Go.Proofs.Try.prog (40, y40) := ent_sca Go.Proofs.Try.type40 Go.Proofs.Try.underlying40 rfl rfl rfl rfl rfl rfl ⟨fun _ h => (by cases h), fun _ _ h => (by cases h)⟩
def y41 : TI := ⟨1, 8, Go.Value.nilFunc, .sca⟩
theorem e41 : Ent Go.Proofs.Try.prog (41, y41) := ent_sca Go.Proofs.Try.type41 Go.Proofs.Try.underlying41 rfl rfl rfl rfl rfl rfl ⟨fun _ h => (by cases h), fun _ _ h => (by cases h)⟩
def y43 : TI := ⟨1, 8, Go.Value.nilFunc, .sca⟩
theorem e43 : Ent Go.Proofs.Try.prog (43, y43) := ent_sca Go.Proofs.Try.type43 Go.Proofs.Try.underlying43 rfl rfl rfl rfl rfl rfl ⟨fun _ h => (by cases h), fun _ _ h => (by cases h)⟩
def y44 : TI := ⟨1, 8, Go.Value.nilFunc, .sca⟩
theorem e44 : Ent Go.Proofs.Try.prog (44, y44) := ent_sca Go.Proofs.Try.type44 Go.Proofs.Try.underlying44 rfl rfl rfl rfl rfl rfl ⟨fun _ h => (by cases h), fun _ _ h => (by cases h)⟩
def y45 : TI := ⟨1, 24, (Go.Value.slice none 0 0), .sl 5⟩
theorem e45 : Ent Go.Proofs.Try.prog (45, y45) := ent_sca Go.Proofs.Try.type45 Go.Proofs.Try.underlying45 rfl rfl rfl rfl rfl rfl rfl
def y46 : TI := ⟨1, 8, Go.Value.nilFunc, .sca⟩
theorem e46 : Ent Go.Proofs.Try.prog (46, y46) := ent_sca Go.Proofs.Try.type46 Go.Proofs.Try.underlying46 rfl rfl rfl rfl rfl rfl ⟨fun _ h => (by cases h), fun _ _ h => (by cases h)⟩
def y47 : TI := ⟨4, 32, (Go.Value.agg #[(Go.Value.int Go.IntKind.i64 0), (Go.Value.int Go.IntKind.i64 0), (Go.Value.int Go.IntKind.i64 0), (Go.Value.int Go.IntKind.i64 0)]), .st [(0, 1), (1, 1), (2, 1), (3, 1)]⟩
theorem e47 : Ent Go.Proofs.Try.prog (47, y47) := ent_agg [(Go.Value.int Go.IntKind.i64 0), (Go.Value.int Go.IntKind.i64 0), (Go.Value.int Go.IntKind.i64 0), (Go.Value.int Go.IntKind.i64 0)] Go.Proofs.Try.type47 Go.Proofs.Try.underlying47 rfl rfl rfl rfl rfl rfl rfl ⟨_, rfl, rfl, fun j o s hj => by
    match j, hj with
    | 0, hj => cases hj; exact ⟨_, rfl, rfl, fld rfl Go.Proofs.Try.type3 rfl, by decide⟩
    | 1, hj => cases hj; exact ⟨_, rfl, rfl, fld rfl Go.Proofs.Try.type3 rfl, by decide⟩
    | 2, hj => cases hj; exact ⟨_, rfl, rfl, fld rfl Go.Proofs.Try.type3 rfl, by decide⟩
    | 3, hj => cases hj; exact ⟨_, rfl, rfl, fld rfl Go.Proofs.Try.type3 rfl, by decide⟩
    | j + 4, hj => cases hj⟩
def y48 : TI := ⟨4, 32, (Go.Value.agg #[(Go.Value.int Go.IntKind.i64 0), (Go.Value.int Go.IntKind.i64 0), (Go.Value.int Go.IntKind.i64 0), (Go.Value.int Go.IntKind.i64 0)]), .st [(0, 1), (1, 1), (2, 1), (3, 1)]⟩
theorem e48 : Ent Go.Proofs.Try.prog (48, y48) := ent_agg [(Go.Value.int Go.IntKind.i64 0), (Go.Value.int Go.IntKind.i64 0), (Go.Value.int Go.IntKind.i64 0), (Go.Value.int Go.IntKind.i64 0)] Go.Proofs.Try.type48 Go.Proofs.Try.underlying48 rfl rfl rfl rfl rfl rfl rfl ⟨_, rfl, rfl, fun j o s hj => by
    match j, hj with
    | 0, hj => cases hj; exact ⟨_, rfl, rfl, fld rfl Go.Proofs.Try.type3 rfl, by decide⟩
    | 1, hj => cases hj; exact ⟨_, rfl, rfl, fld rfl Go.Proofs.Try.type3 rfl, by decide⟩
    | 2, hj => cases hj; exact ⟨_, rfl, rfl, fld rfl Go.Proofs.Try.type3 rfl, by decide⟩
    | 3, hj => cases hj; exact ⟨_, rfl, rfl, fld rfl Go.Proofs.Try.type3 rfl, by decide⟩
    | j + 4, hj => cases hj⟩
def y50 : TI := ⟨1, 8, Go.Value.nilFunc, .sca⟩
theorem e50 : Ent Go.Proofs.Try.prog (50, y50) := ent_sca Go.Proofs.Try.type50 Go.Proofs.Try.underlying50 rfl rfl rfl rfl rfl rfl ⟨fun _ h => (by cases h), fun _ _ h => (by cases h)⟩
def y51 : TI := ⟨1, 8, Go.Value.nilFunc, .sca⟩
theorem e51 : Ent Go.Proofs.Try.prog (51, y51) := ent_sca Go.Proofs.Try.type51 Go.Proofs.Try.underlying51 rfl rfl rfl rfl rfl rfl ⟨fun _ h => (by cases h), fun _ _ h => (by cases h)⟩
def y53 : TI := ⟨1, 8, Go.Value.nilFunc, .sca⟩
theorem e53 : Ent Go.Proofs.Try.prog (53, y53) := ent_sca Go.Proofs.Try.type53 Go.Proofs.Try.underlying53 rfl rfl rfl rfl rfl rfl ⟨fun _ h => (by cases h), fun _ _ h => (by cases h)⟩
def y54 : TI := ⟨1, 8, Go.Value.nilFunc, .sca⟩
theorem e54 : Ent Go.Proofs.Try.prog (54, y54) := ent_sca Go.Proofs.Try.type54 Go.Proofs.Try.underlying54 rfl rfl rfl rfl rfl rfl ⟨fun _ h => (by cases h), fun _ _ h => (by cases h)⟩
def y56 : TI := ⟨1, 8, Go.Value.nilFunc, .sca⟩
theorem e56 : Ent Go.Proofs.Try.prog (56, y56) := ent_sca Go.Proofs.Try.type56 Go.Proofs.Try.underlying56 rfl rfl rfl rfl rfl rfl ⟨fun _ h => (by cases h), fun _ _ h => (by cases h)⟩
def y58 : TI := ⟨1, 8, Go.Value.nilFunc, .sca⟩
theorem e58 : Ent Go.Proofs.Try.prog (58, y58) := ent_sca Go.Proofs.Try.type58 Go.Proofs.Try.underlying58 rfl rfl rfl rfl rfl rfl ⟨fun _ h => (by cases h), fun _ _ h => (by cases h)⟩
def y59 : TI := ⟨1, 8, Go.Value.nilFunc, .sca⟩
theorem e59 : Ent Go.Proofs.Try.prog (59, y59) := ent_sca Go.Proofs.Try.type59 Go.Proofs.Try.underlying59 rfl rfl rfl rfl rfl rfl ⟨fun _ h => (by cases h), fun _ _ h => (by cases h)⟩
def y60 : TI := ⟨1, 8, Go.Value.nilFunc, .sca⟩
theorem e60 : Ent Go.Proofs.Try.prog (60, y60) := ent_sca Go.Proofs.Try.type60 Go.Proofs.Try.underlying60 rfl rfl rfl rfl rfl rfl ⟨fun _ h => (by cases h), fun _ _ h => (by cases h)⟩
def y61 : TI := ⟨1, 8, Go.Value.nilFunc, .sca⟩
theorem e61 : Ent Go.Proofs.Try.prog (61, y61) := ent_sca Go.Proofs.Try.type61 Go.Proofs.Try.underlying61 rfl rfl rfl rfl rfl rfl ⟨fun _ h => (by cases h), fun _ _ h => (by cases h)⟩
def y62 : TI := ⟨1, 8, Go.Value.nilFunc, .sca⟩
theorem e62 : Ent Go.Proofs.Try.prog (62, y62) := ent_sca Go.Proofs.Try.type62 Go.Proofs.Try.underlying62 rfl rfl rfl rfl rfl rfl ⟨fun _ h => (by cases h), fun _ _ h => (by cases h)⟩
def y63 : TI := ⟨1, 8, Go.Value.nilFunc, .sca⟩
theorem e63 : Ent Go.Proofs.Try.prog (63, y63) := ent_sca Go.Proofs.Try.type63 Go.Proofs.Try.underlying63 rfl rfl rfl rfl rfl rfl ⟨fun _ h => (by cases h), fun _ _ h => (by cases h)⟩
def y64 : TI := ⟨1, 8, Go.Value.nilFunc, .sca⟩
theorem e64 : Ent Go.Proofs.Try.prog (64, y64) := ent_sca Go.Proofs.Try.type64 Go.Proofs.Try.underlying64 rfl rfl rfl rfl rfl rfl ⟨fun _ h => (by cases h), fun _ _ h => (by cases h)⟩
def y65 : TI := ⟨1, 8, Go.Value.nilFunc, .sca⟩
theorem e65 : Ent Go.Proofs.Try.prog (65, y65) := ent_sca Go.Proofs.Try.type65 Go.Proofs.Try.underlying65 rfl rfl rfl rfl rfl rfl ⟨fun _ h => (by cases h), fun _ _ h => (by cases h)⟩
def y66 : TI := ⟨1, 24, (Go.Value.slice none 0 0), .sl 31⟩
theorem e66 : Ent Go.Proofs.Try.prog (66, y66) := ent_sca Go.Proofs.Try.type66 Go.Proofs.Try.underlying66 rfl rfl rfl rfl rfl rfl rfl
def y67 : TI := ⟨1, 8, Go.Value.nilFunc, .sca⟩
theorem e67 : Ent Go.Proofs.Try.prog (67, y67) := ent_sca Go.Proofs.Try.type67 Go.Proofs.Try.underlying67 rfl rfl rfl rfl rfl rfl ⟨fun _ h => (by cases h), fun _ _ h => (by cases h)⟩
def y68 : TI := ⟨1, 8, Go.Value.nilFunc, .sca⟩
theorem e68 : Ent Go.Proofs.Try.prog (68, y68) := ent_sca Go.Proofs.Try.type68 Go.Proofs.Try.underlying68 rfl rfl rfl rfl rfl rfl ⟨fun _ h => (by cases h), fun _ _ h => (by cases h)⟩
def y70 : TI := ⟨1, 8, Go.Value.nilFunc, .sca⟩
theorem e70 : Ent Go.Proofs.Try.prog (70, y70) := ent_sca Go.Proofs.Try.type70 Go.Proofs.Try.underlying70 rfl rfl rfl rfl rfl rfl ⟨fun _ h => (by cases h), fun _ _ h => (by cases h)⟩
def y71 : TI := ⟨1, 8, Go.Value.nilFunc, .sca⟩
theorem e71 : Ent Go.Proofs.Try.prog (71, y71) := ent_sca Go.Proofs.Try.type71 Go.Proofs.Try.underlying71 rfl rfl rfl rfl rfl rfl ⟨fun _ h => (by cases h), fun _ _ h => (by cases h)⟩
def y72 : TI := ⟨1, 8, Go.Value.nilFunc, .sca⟩
theorem e72 : Ent Go.Proofs.Try.prog (72, y72) := ent_sca Go.Proofs.Try.type72 Go.Proofs.Try.underlying72 rfl rfl rfl rfl rfl rfl ⟨fun _ h => (by cases h), fun _ _ h => (by cases h)⟩
def y73 : TI := ⟨1, 24, (Go.Value.slice none 0 0), .sl 66⟩
theorem e73 : Ent Go.Proofs.Try.prog (73, y73) := ent_sca Go.Proofs.Try.type73 Go.Proofs.Try.underlying73 rfl rfl rfl rfl rfl rfl rfl
def y74 : TI := ⟨1, 8, Go.Value.nilFunc, .sca⟩
theorem e74 : Ent Go.Proofs.Try.prog (74, y74) := ent_sca Go.Proofs.Try.type74 Go.Proofs.Try.underlying74 rfl rfl rfl rfl rfl rfl ⟨fun _ h => (by cases h), fun _ _ h => (by cases h)⟩
def y75 : TI := ⟨1, 24, (Go.Value.slice none 0 0), .sl 23⟩
theorem e75 : Ent Go.Proofs.Try.prog (75, y75) := ent_sca Go.Proofs.Try.type75 Go.Proofs.Try.underlying75 rfl rfl rfl rfl rfl rfl rfl
def y76 : TI := ⟨1, 8, Go.Value.nilFunc, .sca⟩
theorem e76 : Ent Go.Proofs.Try.prog (76, y76) := ent_sca Go.Proofs.Try.type76 Go.Proofs.Try.underlying76 rfl rfl rfl rfl rfl rfl ⟨fun _ h => (by cases h), fun _ _ h => (by cases h)⟩
def y77 : TI := ⟨1, 8, Go.Value.nilFunc, .sca⟩
theorem e77 : Ent Go.Proofs.Try.prog (77, y77) := ent_sca Go.Proofs.Try.type77 Go.Proofs.Try.underlying77 rfl rfl rfl rfl rfl rfl ⟨fun _ h => (by cases h), fun _ _ h => (by cases h)⟩
def y78 : TI := ⟨1, 8, Go.Value.nilFunc, .sca⟩
theorem e78 : Ent Go.Proofs.Try.prog (78, y78) := ent_sca Go.Proofs.Try.type78 Go.Proofs.Try.underlying78 rfl rfl rfl rfl rfl rfl ⟨fun _ h => (by cases h), fun _ _ h => (by cases h)⟩
def y79 : TI := ⟨1, 8, Go.Value.nilFunc, .sca⟩
theorem e79 : Ent Go.Proofs.Try.prog (79, y79) := ent_sca Go.Proofs.Try.type79 Go.Proofs.Try.underlying79 rfl rfl rfl rfl rfl rfl ⟨fun _ h => (by cases h), fun _ _ h => (by cases h)⟩
def y80 : TI := ⟨1, 8, Go.Value.nilFunc, .sca⟩
theorem e80 : Ent Go.Proofs.Try.prog (80, y80) := ent_sca Go.Proofs.Try.type80 Go.Proofs.Try.underlying80 rfl rfl rfl rfl rfl rfl ⟨fun _ h => (by cases h), fun _ _ h => (by cases h)⟩
def y81 : TI := ⟨1, 8, Go.Value.nilFunc, .sca⟩
theorem e81 : Ent Go.Proofs.Try.prog (81, y81) := ent_sca Go.Proofs.Try.type81 Go.Proofs.Try.underlying81 rfl rfl rfl rfl rfl rfl ⟨fun _ h => (by cases h), fun _ _ h => (by cases h)⟩
def y82 : TI := ⟨1, 8, Go.Value.nilFunc, .sca⟩
theorem e82 : Ent Go.Proofs.Try.prog (82, y82) := ent_sca Go.Proofs.Try.type82 Go.Proofs.Try.underlying82 rfl rfl rfl rfl rfl rfl ⟨fun _ h => (by cases h), fun _ _ h => (by cases h)⟩
def y83 : TI := ⟨1, 8, Go.Value.nilFunc, .sca⟩
theorem e83 : Ent Go.Proofs.Try.prog (83, y83) := ent_sca Go.Proofs.Try.type83 Go.Proofs.Try.underlying83 rfl rfl rfl rfl rfl rfl ⟨fun _ h => (by cases h), fun _ _ h => (by cases h)⟩
def y84 : TI := ⟨1, 8, Go.Value.nilFunc, .sca⟩
theorem e84 : Ent Go.Proofs.Try.prog (84, y84) := ent_sca Go.Proofs.Try.type84 Go.Proofs.Try.underlying84 rfl rfl rfl rfl rfl rfl ⟨fun _ h => (by cases h), fun _ _ h => (by cases h)⟩
def y85 : TI := ⟨1, 8, Go.Value.nilFunc, .sca⟩
theorem e85 : Ent Go.Proofs.Try.prog (85, y85) := ent_sca Go.Proofs.Try.type85 Go.Proofs.Try.underlying85 rfl rfl rfl rfl rfl rfl ⟨fun _ h => (by cases h), fun _ _ h => (by cases h)⟩
def y86 : TI := ⟨1, 8, Go.Value.nilFunc, .sca⟩
theorem e86 : Ent Go.Proofs.Try.prog (86, y86) := ent_sca Go.Proofs.Try.type86 Go.Proofs.Try.underlying86 rfl rfl rfl rfl rfl rfl ⟨fun _ h => (by cases h), fun _ _ h => (by cases h)⟩
def y87 : TI := ⟨1, 8, (Go.Value.pointer none), .sca⟩
theorem e87 : Ent Go.Proofs.Try.prog (87, y87) := ent_sca Go.Proofs.Try.type87 Go.Proofs.Try.underlying87 rfl rfl rfl rfl rfl rfl ⟨fun _ h => (by cases h), fun _ _ h => (by cases h)⟩
def y88 : TI := ⟨2, 32, (Go.Value.agg #[(Go.Value.pointer none), (Go.Value.slice none 0 0)]), .st [(0, 1), (1, 1)]⟩
theorem e88 : Ent Go.Proofs.Try.prog (88, y88) := ent_agg [(Go.Value.pointer none), (Go.Value.slice none 0 0)] Go.Proofs.Try.type88 Go.Proofs.Try.underlying88 rfl rfl rfl rfl rfl rfl rfl ⟨_, rfl, rfl, fun j o s hj => by
    match j, hj with
    | 0, hj => cases hj; exact ⟨_, rfl, rfl, fld rfl Go.Proofs.Try.type87 rfl, by decide⟩
    | 1, hj => cases hj; exact ⟨_, rfl, rfl, fld rfl Go.Proofs.Try.type45 rfl, by decide⟩
    | j + 2, hj => cases hj⟩
def y89 : TI := ⟨2, 32, (Go.Value.agg #[(Go.Value.pointer none), (Go.Value.slice none 0 0)]), .st [(0, 1), (1, 1)]⟩
theorem e89 : Ent Go.Proofs.Try.prog (89, y89) := ent_agg [(Go.Value.pointer none), (Go.Value.slice none 0 0)] Go.Proofs.Try.type89 Go.Proofs.Try.underlying89 rfl rfl rfl rfl rfl rfl rfl ⟨_, rfl, rfl, fun j o s hj => by
    match j, hj with
    | 0, hj => cases hj; exact ⟨_, rfl, rfl, fld rfl Go.Proofs.Try.type87 rfl, by decide⟩
    | 1, hj => cases hj; exact ⟨_, rfl, rfl, fld rfl Go.Proofs.Try.type45 rfl, by decide⟩
    | j + 2, hj => cases hj⟩
def y90 : TI := ⟨1, 8, Go.Value.nilFunc, .sca⟩
theorem e90 : Ent Go.Proofs.Try.prog (90, y90) := ent_sca Go.Proofs.Try.type90 Go.Proofs.Try.underlying90 rfl rfl rfl rfl rfl rfl ⟨fun _ h => (by cases h), fun _ _ h => (by cases h)⟩
def y93 : TI := ⟨1, 8, Go.Value.nilFunc, .sca⟩
theorem e93 : Ent Go.Proofs.Try.prog (93, y93) := ent_sca Go.Proofs.Try.type93 Go.Proofs.Try.underlying93 rfl rfl rfl rfl rfl rfl ⟨fun _ h => (by cases h), fun _ _ h => (by cases h)⟩
def y94 : TI := ⟨1, 8, Go.Value.nilFunc, .sca⟩
theorem e94 : Ent Go.Proofs.Try.prog (94, y94) := ent_sca Go.Proofs.Try.type94 Go.Proofs.Try.underlying94 rfl rfl rfl rfl rfl rfl ⟨fun _ h => (by cases h), fun _ _ h => (by cases h)⟩
def y95 : TI := ⟨1, 8, Go.Value.nilFunc, .sca⟩
theorem e95 : Ent Go.Proofs.Try.prog (95, y95) := ent_sca Go.Proofs.Try.type95 Go.Proofs.Try.underlying95 rfl rfl rfl rfl rfl rfl ⟨fun _ h => (by cases h), fun _ _ h => (by cases h)⟩
def y96 : TI := ⟨1, 8, Go.Value.nilFunc, .sca⟩
theorem e96 : Ent Go.Proofs.Try.prog (96, y96) := ent_sca Go.Proofs.Try.type96 Go.Proofs.Try.underlying96 rfl rfl rfl rfl rfl rfl ⟨fun _ h => (by cases h), fun _ _ h => (by cases h)⟩
def y97 : TI := ⟨1, 8, Go.Value.nilFunc, .sca⟩
theorem e97 : Ent Go.Proofs.Try.prog (97, y97) := ent_sca Go.Proofs.Try.type97 Go.Proofs.Try.underlying97 rfl rfl rfl rfl rfl rfl ⟨fun _ h => (by cases h), fun _ _ h => (by cases h)⟩
def y98 : TI := ⟨1, 24, (Go.Value.slice none 0 0), .sl 3⟩
theorem e98 : Ent Go.Proofs.Try.prog (98, y98) := ent_sca Go.Proofs.Try.type98 Go.Proofs.Try.underlying98 rfl rfl rfl rfl rfl rfl rfl
def y99 : TI := ⟨1, 8, Go.Value.nilFunc, .sca⟩
theorem e99 : Ent Go.Proofs.Try.prog (99, y99) := ent_sca Go.Proofs.Try.type99 Go.Proofs.Try.underlying99 rfl rfl rfl rfl rfl rfl ⟨fun _ h => (by cases h), fun _ _ h => (by cases h)⟩
def y100 : TI := ⟨1, 8, Go.Value.nilFunc, .sca⟩
theorem e100 : Ent Go.Proofs.Try.prog (100, y100) := ent_sca Go.Proofs.Try.type100 Go.Proofs.Try.underlying100 rfl rfl rfl rfl rfl rfl ⟨fun _ h => (by cases h), fun _ _ h => (by cases h)⟩
def y101 : TI := ⟨1, 8, Go.Value.nilFunc, .sca⟩
theorem e101 : Ent Go.Proofs.Try.prog (101, y101) := ent_sca Go.Proofs.Try.type101 Go.Proofs.Try.underlying101 rfl rfl rfl rfl rfl rfl ⟨fun _ h => (by cases h), fun _ _ h => (by cases h)⟩
def y102 : TI := ⟨1, 8, Go.Value.nilFunc, .sca⟩
theorem e102 : Ent Go.Proofs.Try.prog (102, y102) := ent_sca Go.Proofs.Try.type102 Go.Proofs.Try.underlying102 rfl rfl rfl rfl rfl rfl ⟨fun _ h => (by cases h), fun _ _ h => (by cases h)⟩
def y103 : TI := ⟨1, 8, Go.Value.nilFunc, .sca⟩
theorem e103 : Ent Go.Proofs.Try.prog (103, y103) := ent_sca Go.Proofs.Try.type103 Go.Proofs.Try.underlying103 rfl rfl rfl rfl rfl rfl ⟨fun _ h => (by cases h), fun _ _ h => (by cases h)⟩
def y104 : TI := ⟨1, 8, Go.Value.nilFunc, .sca⟩
theorem e104 : Ent Go.Proofs.Try.prog (104, y104) := ent_sca Go.Proofs.Try.type104 Go.Proofs.Try.underlying104 rfl rfl rfl rfl rfl rfl ⟨fun _ h => (by cases h), fun _ _ h => (by cases h)⟩
def y105 : TI := ⟨1, 8, (Go.Value.pointer none), .sca⟩
theorem e105 : Ent Go.Proofs.Try.prog (105, y105) := ent_sca Go.Proofs.Try.type105 Go.Proofs.Try.underlying105 rfl rfl rfl rfl rfl rfl ⟨fun _ h => (by cases h), fun _ _ h => (by cases h)⟩
def y106 : TI := ⟨1, 8, Go.Value.nilFunc, .sca⟩
theorem e106 : Ent Go.Proofs.Try.prog (106, y106) := ent_sca Go.Proofs.Try.type106 Go.Proofs.Try.underlying106 rfl rfl rfl rfl rfl rfl ⟨fun _ h => (by cases h), fun _ _ h => (by cases h)⟩
def y107 : TI := ⟨1, 8, Go.Value.nilFunc, .sca⟩
theorem e107 : Ent Go.Proofs.Try.prog (107, y107) := ent_sca Go.Proofs.Try.type107 Go.Proofs.Try.underlying107 rfl rfl rfl rfl rfl rfl ⟨fun _ h => (by cases h), fun _ _ h => (by cases h)⟩
def y108 : TI := ⟨1, 8, Go.Value.nilFunc, .sca⟩
theorem e108 : Ent Go.Proofs.Try.prog (108, y108) := ent_sca Go.Proofs.Try.type108 Go.Proofs.Try.underlying108 rfl rfl rfl rfl rfl rfl ⟨fun _ h => (by cases h), fun _ _ h => (by cases h)⟩
def y109 : TI := ⟨1, 8, Go.Value.nilFunc, .sca⟩
theorem e109 : Ent Go.Proofs.Try.prog (109, y109) := ent_sca Go.Proofs.Try.type109 Go.Proofs.Try.underlying109 rfl rfl rfl rfl rfl rfl ⟨fun _ h => (by cases h), fun _ _ h => (by cases h)⟩
def y110 : TI := ⟨1, 8, Go.Value.nilFunc, .sca⟩
theorem e110 : Ent Go.Proofs.Try.prog (110, y110) := ent_sca Go.Proofs.Try.type110 Go.Proofs.Try.underlying110 rfl rfl rfl rfl rfl rfl ⟨fun _ h => (by cases h), fun _ _ h => (by cases h)⟩
def y111 : TI := ⟨1, 8, Go.Value.nilFunc, .sca⟩
theorem e111 : Ent Go.Proofs.Try.prog (111, y111) := ent_sca Go.Proofs.Try.type111 Go.Proofs.Try.underlying111 rfl rfl rfl rfl rfl rfl ⟨fun _ h => (by cases h), fun _ _ h => (by cases h)⟩
def y112 : TI := ⟨1, 8, Go.Value.nilFunc, .sca⟩
theorem e112 : Ent Go.Proofs.Try.prog (112, y112) := ent_sca Go.Proofs.Try.type112 Go.Proofs.Try.underlying112 rfl rfl rfl rfl rfl rfl ⟨fun _ h => (by cases h), fun _ _ h => (by cases h)⟩
def y114 : TI := ⟨1, 8, Go.Value.nilFunc, .sca⟩
theorem e114 : Ent Go.Proofs.Try.prog (114, y114) := ent_sca Go.Proofs.Try.type114 Go.Proofs.Try.underlying114 rfl rfl rfl rfl rfl rfl ⟨fun _ h => (by cases h), fun _ _ h => (by cases h)⟩
def y115 : TI := ⟨1, 8, Go.Value.nilFunc, .sca⟩
theorem e115 : Ent Go.Proofs.Try.prog (115, y115) := ent_sca Go.Proofs.Try.type115 Go.Proofs.Try.underlying115 rfl rfl rfl rfl rfl rfl ⟨fun _ h => (by cases h), fun _ _ h => (by cases h)⟩
def y116 : TI := ⟨5, 56, (Go.Value.agg #[(Go.Value.slice none 0 0), (Go.Value.int Go.IntKind.i64 0), (Go.Value.int Go.IntKind.i64 0), (Go.Value.int Go.IntKind.i64 0), (Go.Value.int Go.IntKind.i64 0)]), .st [(0, 1), (1, 1), (2, 1), (3, 1), (4, 1)]⟩
theorem e116 : Ent Go.Proofs.Try.prog (116, y116) := ent_agg [(Go.Value.slice none 0 0), (Go.Value.int Go.IntKind.i64 0), (Go.Value.int Go.IntKind.i64 0), (Go.Value.int Go.IntKind.i64 0), (Go.Value.int Go.IntKind.i64 0)] Go.Proofs.Try.type116 Go.Proofs.Try.underlying116 rfl rfl rfl rfl rfl rfl rfl ⟨_, rfl, rfl, fun j o s hj => by
    match j, hj with
    | 0, hj => cases hj; exact ⟨_, rfl, rfl, fld rfl Go.Proofs.Try.type45 rfl, by decide⟩
    | 1, hj => cases hj; exact ⟨_, rfl, rfl, fld rfl Go.Proofs.Try.type3 rfl, by decide⟩
    | 2, hj => cases hj; exact ⟨_, rfl, rfl, fld rfl Go.Proofs.Try.type3 rfl, by decide⟩
    | 3, hj => cases hj; exact ⟨_, rfl, rfl, fld rfl Go.Proofs.Try.type3 rfl, by decide⟩
    | 4, hj => cases hj; exact ⟨_, rfl, rfl, fld rfl Go.Proofs.Try.type3 rfl, by decide⟩
    | j + 5, hj => cases hj⟩
def y117 : TI := ⟨5, 56, (Go.Value.agg #[(Go.Value.slice none 0 0), (Go.Value.int Go.IntKind.i64 0), (Go.Value.int Go.IntKind.i64 0), (Go.Value.int Go.IntKind.i64 0), (Go.Value.int Go.IntKind.i64 0)]), .st [(0, 1), (1, 1), (2, 1), (3, 1), (4, 1)]⟩
theorem e117 : Ent Go.Proofs.Try.prog (117, y117) := ent_agg [(Go.Value.slice none 0 0), (Go.Value.int Go.IntKind.i64 0), (Go.Value.int Go.IntKind.i64 0), (Go.Value.int Go.IntKind.i64 0), (Go.Value.int Go.IntKind.i64 0)] Go.Proofs.Try.type117 Go.Proofs.Try.underlying117 rfl rfl rfl rfl rfl rfl rfl ⟨_, rfl, rfl, fun j o s hj => by
    match j, hj with
    | 0, hj => cases hj; exact ⟨_, rfl, rfl, fld rfl Go.Proofs.Try.type45 rfl, by decide⟩
    | 1, hj => cases hj; exact ⟨_, rfl, rfl, fld rfl Go.Proofs.Try.type3 rfl, by decide⟩
    | 2, hj => cases hj; exact ⟨_, rfl, rfl, fld rfl Go.Proofs.Try.type3 rfl, by decide⟩
    | 3, hj => cases hj; exact ⟨_, rfl, rfl, fld rfl Go.Proofs.Try.type3 rfl, by decide⟩
    | 4, hj => cases hj; exact ⟨_, rfl, rfl, fld rfl Go.Proofs.Try.type3 rfl, by decide⟩
    | j + 5, hj => cases hj⟩
def y118 : TI := ⟨1, 8, Go.Value.nilFunc, .sca⟩
theorem e118 : Ent Go.Proofs.Try.prog (118, y118) := ent_sca Go.Proofs.Try.type118 Go.Proofs.Try.underlying118 rfl rfl rfl rfl rfl rfl ⟨fun _ h => (by cases h), fun _ _ h => (by cases h)⟩
def y119 : TI := ⟨1, 8, Go.Value.nilFunc, .sca⟩
theorem e119 : Ent Go.Proofs.Try.prog (119, y119) := ent_sca Go.Proofs.Try.type119 Go.Proofs.Try.underlying119 rfl rfl rfl rfl rfl rfl ⟨fun _ h => (by cases h), fun _ _ h => (by cases h)⟩
def y120 : TI := ⟨1, 8, Go.Value.nilFunc, .sca⟩
theorem e120 : Ent Go.Proofs.Try.prog (120, y120) := ent_sca Go.Proofs.Try.type120 Go.Proofs.Try.underlying120 rfl rfl rfl rfl rfl rfl ⟨fun _ h => (by cases h), fun _ _ h => (by cases h)⟩
def y121 : TI := ⟨1, 8, (Go.Value.int Go.IntKind.u64 0), .int Go.IntKind.u64⟩
theorem e121 : Ent Go.Proofs.Try.prog (121, y121) := ent_sca Go.Proofs.Try.type121 Go.Proofs.Try.underlying121 rfl rfl rfl rfl rfl rfl rfl
def y122 : TI := ⟨1, 8, Go.Value.nilFunc, .sca⟩
theorem e122 : Ent Go.Proofs.Try.prog (122, y122) := ent_sca Go.Proofs.Try.type122 Go.Proofs.Try.underlying122 rfl rfl rfl rfl rfl rfl ⟨fun _ h => (by cases h), fun _ _ h => (by cases h)⟩
def y124 : TI := ⟨1, 8, Go.Value.nilFunc, .sca⟩
theorem e124 : Ent Go.Proofs.Try.prog (124, y124) := ent_sca Go.Proofs.Try.type124 Go.Proofs.Try.underlying124 rfl rfl rfl rfl rfl rfl ⟨fun _ h => (by cases h), fun _ _ h => (by cases h)⟩
def y125 : TI := ⟨1, 8, Go.Value.nilFunc, .sca⟩
theorem e125 : Ent Go.Proofs.Try.prog (125, y125) := ent_sca Go.Proofs.Try.type125 Go.Proofs.Try.underlying125 rfl rfl rfl rfl rfl rfl ⟨fun _ h => (by cases h), fun _ _ h => (by cases h)⟩
def y127 : TI := ⟨1, 8, Go.Value.nilFunc, .sca⟩
theorem e127 : Ent Go.Proofs.Try.prog (127, y127) := ent_sca Go.Proofs.Try.type127 Go.Proofs.Try.underlying127 rfl rfl rfl rfl rfl rfl ⟨fun _ h => (by cases h), fun _ _ h => (by cases h)⟩
def y128 : TI := ⟨1, 8, Go.Value.nilFunc, .sca⟩
theorem e128 : Ent Go.Proofs.Try.prog (128, y128) := ent_sca Go.Proofs.Try.type128 Go.Proofs.Try.underlying128 rfl rfl rfl rfl rfl rfl ⟨fun _ h => (by cases h), fun _ _ h => (by cases h)⟩
def y129 : TI := ⟨1, 8, Go.Value.nilFunc, .sca⟩
theorem e129 : Ent Go.Proofs.Try.prog (129, y129) := ent_sca Go.Proofs.Try.type129 Go.Proofs.Try.underlying129 rfl rfl rfl rfl rfl rfl ⟨fun _ h => (by cases h), fun _ _ h => (by cases h)⟩
def y130 : TI := ⟨1, 8, Go.Value.nilFunc, .sca⟩
theorem e130 : Ent Go.Proofs.Try.prog (130, y130) := ent_sca Go.Proofs.Try.type130 Go.Proofs.Try.underlying130 rfl rfl rfl rfl rfl rfl ⟨fun _ h => (by cases h), fun _ _ h => (by cases h)⟩
def y131 : TI := ⟨1, 8, Go.Value.nilFunc, .sca⟩
theorem e131 : Ent Go.Proofs.Try.prog (131, y131) := ent_sca Go.Proofs.Try.type131 Go.Proofs.Try.underlying131 rfl rfl rfl rfl rfl rfl ⟨fun _ h => (by cases h), fun _ _ h => (by cases h)⟩
def y132 : TI := ⟨1, 8, Go.Value.nilFunc, .sca⟩
theorem e132 : Ent Go.Proofs.Try.prog (132, y132) := ent_sca Go.Proofs.Try.type132 Go.Proofs.Try.underlying132 rfl rfl rfl rfl rfl rfl ⟨fun _ h => (by cases h), fun _ _ h => (by cases h)⟩
def y133 : TI := ⟨1, 8, Go.Value.nilFunc, .sca⟩
theorem e133 : Ent Go.Proofs.Try.prog (133, y133) := ent_sca Go.Proofs.Try.type133 Go.Proofs.Try.underlying133 rfl rfl rfl rfl rfl rfl ⟨fun _ h => (by cases h), fun _ _ h => (by cases h)⟩
def y134 : TI := ⟨1, 8, Go.Value.nilFunc, .sca⟩
theorem e134 : Ent Go.Proofs.Try.prog (134, y134) := ent_sca Go.Proofs.Try.type134 Go.Proofs.Try.underlying134 rfl rfl rfl rfl rfl rfl ⟨fun _ h => (by cases h), fun _ _ h => (by cases h)⟩
def y135 : TI := ⟨1, 8, Go.Value.nilFunc, .sca⟩
theorem e135 : Ent Go.Proofs.Try.prog (135, y135) := ent_sca Go.Proofs.Try.type135 Go.Proofs.Try.underlying135 rfl rfl rfl rfl rfl rfl ⟨fun _ h => (by cases h), fun _ _ h => (by cases h)⟩
def y136 : TI := ⟨1, 8, Go.Value.nilFunc, .sca⟩
theorem e136 : Ent Go.Proofs.Try.prog (136, y136) := ent_sca Go.Proofs.Try.type136 Go.Proofs.Try.underlying136 rfl rfl rfl rfl rfl rfl ⟨fun _ h => (by cases h), fun _ _ h => (by cases h)⟩
def y137 : TI := ⟨1, 8, Go.Value.nilFunc, .sca⟩
theorem e137 : Ent Go.Proofs.Try.prog (137, y137) := ent_sca Go.Proofs.Try.type137 Go.Proofs.Try.underlying137 rfl rfl rfl rfl rfl rfl ⟨fun _ h => (by cases h), fun _ _ h => (by cases h)⟩
def y138 : TI := ⟨2, 32, (Go.Value.agg #[(Go.Value.bool false), (Go.Value.slice none 0 0)]), .st [(0, 1), (1, 1)]⟩
theorem e138 : Ent Go.Proofs.Try.prog (138, y138) := ent_agg [(Go.Value.bool false), (Go.Value.slice none 0 0)] Go.Proofs.Try.type138 Go.Proofs.Try.underlying138 rfl rfl rfl rfl rfl rfl rfl ⟨_, rfl, rfl, fun j o s hj => by
    match j, hj with
    | 0, hj => cases hj; exact ⟨_, rfl, rfl, fld rfl Go.Proofs.Try.type4 rfl, by decide⟩
    | 1, hj => cases hj; exact ⟨_, rfl, rfl, fld rfl Go.Proofs.Try.type98 rfl, by decide⟩
    | j + 2, hj => cases hj⟩
def y139 : TI := ⟨2, 32, (Go.Value.agg #[(Go.Value.bool false), (Go.Value.slice none 0 0)]), .st [(0, 1), (1, 1)]⟩
theorem e139 : Ent Go.Proofs.Try.prog (139, y139) := ent_agg [(Go.Value.bool false), (Go.Value.slice none 0 0)] Go.Proofs.Try.type139 Go.Proofs.Try.underlying139 rfl rfl rfl rfl rfl rfl rfl ⟨_, rfl, rfl, fun j o s hj => by
    match j, hj with
    | 0, hj => cases hj; exact ⟨_, rfl, rfl, fld rfl Go.Proofs.Try.type4 rfl, by decide⟩
    | 1, hj => cases hj; exact ⟨_, rfl, rfl, fld rfl Go.Proofs.Try.type98 rfl, by decide⟩
    | j + 2, hj => cases hj⟩
def y140 : TI := ⟨1, 8, Go.Value.nilFunc, .sca⟩
theorem e140 : Ent Go.Proofs.Try.prog (140, y140) := ent_sca Go.Proofs.Try.type140 Go.Proofs.Try.underlying140 rfl rfl rfl rfl rfl rfl ⟨fun _ h => (by cases h), fun _ _ h => (by cases h)⟩
def y141 : TI := ⟨1, 24, (Go.Value.slice none 0 0), .sl 139⟩
theorem e141 : Ent Go.Proofs.Try.prog (141, y141) := ent_sca Go.Proofs.Try.type141 Go.Proofs.Try.underlying141 rfl rfl rfl rfl rfl rfl rfl
def y142 : TI := ⟨1, 8, Go.Value.nilFunc, .sca⟩
theorem e142 : Ent Go.Proofs.Try.prog (142, y142) := ent_sca Go.Proofs.Try.type142 Go.Proofs.Try.underlying142 rfl rfl rfl rfl rfl rfl ⟨fun _ h => (by cases h), fun _ _ h => (by cases h)⟩
def y144 : TI := ⟨1, 8, Go.Value.nilFunc, .sca⟩
theorem e144 : Ent Go.Proofs.Try.prog (144, y144) := ent_sca Go.Proofs.Try.type144 Go.Proofs.Try.underlying144 rfl rfl rfl rfl rfl rfl ⟨fun _ h => (by cases h), fun _ _ h => (by cases h)⟩
def y146 : TI := ⟨1, 8, Go.Value.nilFunc, .sca⟩
theorem e146 : Ent Go.Proofs.Try.prog (146, y146) := ent_sca Go.Proofs.Try.type146 Go.Proofs.Try.underlying146 rfl rfl rfl rfl rfl rfl ⟨fun _ h => (by cases h), fun _ _ h => (by cases h)⟩
def y147 : TI := ⟨1, 8, Go.Value.nilFunc, .sca⟩
theorem e147 : Ent Go.Proofs.Try.prog (147, y147) := ent_sca Go.Proofs.Try.type147 Go.Proofs.Try.underlying147 rfl rfl rfl rfl rfl rfl ⟨fun _ h => (by cases h), fun _ _ h => (by cases h)⟩
def y148 : TI := ⟨1, 8, (Go.Value.agg #[(Go.Value.int Go.IntKind.i64 0)]), .st [(0, 1)]⟩
theorem e148 : Ent Go.Proofs.Try.prog (148, y148) := ent_agg [(Go.Value.int Go.IntKind.i64 0)] Go.Proofs.Try.type148 Go.Proofs.Try.underlying148 rfl rfl rfl rfl rfl rfl rfl ⟨_, rfl, rfl, fun j o s hj => by
    match j, hj with
    | 0, hj => cases hj; exact ⟨_, rfl, rfl, fld rfl Go.Proofs.Try.type3 rfl, by decide⟩
    | j + 1, hj => cases hj⟩
def y149 : TI := ⟨1, 8, (Go.Value.agg #[(Go.Value.int Go.IntKind.i64 0)]), .st [(0, 1)]⟩
theorem e149 : Ent Go.Proofs.Try.prog (149, y149) := ent_agg [(Go.Value.int Go.IntKind.i64 0)] Go.Proofs.Try.type149 Go.Proofs.Try.underlying149 rfl rfl rfl rfl rfl rfl rfl ⟨_, rfl, rfl, fun j o s hj => by
    match j, hj with
    | 0, hj => cases hj; exact ⟨_, rfl, rfl, fld rfl Go.Proofs.Try.type3 rfl, by decide⟩
    | j + 1, hj => cases hj⟩
def y150 : TI := ⟨1, 8, Go.Value.nilFunc, .sca⟩
theorem e150 : Ent Go.Proofs.Try.prog (150, y150) := ent_sca Go.Proofs.Try.type150 Go.Proofs.Try.underlying150 rfl rfl rfl rfl rfl rfl ⟨fun _ h => (by cases h), fun _ _ h => (by cases h)⟩
def y151 : TI := ⟨1, 8, Go.Value.nilFunc, .sca⟩
theorem e151 : Ent Go.Proofs.Try.prog (151, y151) := ent_sca Go.Proofs.Try.type151 Go.Proofs.Try.underlying151 rfl rfl rfl rfl rfl rfl ⟨fun _ h => (by cases h), fun _ _ h => (by cases h)⟩
def y152 : TI := ⟨1, 8, Go.Value.nilFunc, .sca⟩
theorem e152 : Ent Go.Proofs.Try.prog (152, y152) := ent_sca Go.Proofs.Try.type152 Go.Proofs.Try.underlying152 rfl rfl rfl rfl rfl rfl ⟨fun _ h => (by cases h), fun _ _ h => (by cases h)⟩
def y153 : TI := ⟨1, 24, (Go.Value.slice none 0 0), .sl 48⟩
theorem e153 : Ent Go.Proofs.Try.prog (153, y153) := ent_sca Go.Proofs.Try.type153 Go.Proofs.Try.underlying153 rfl rfl rfl rfl rfl rfl rfl
def y154 : TI := ⟨1, 8, Go.Value.nilFunc, .sca⟩
theorem e154 : Ent Go.Proofs.Try.prog (154, y154) := ent_sca Go.Proofs.Try.type154 Go.Proofs.Try.underlying154 rfl rfl rfl rfl rfl rfl ⟨fun _ h => (by cases h), fun _ _ h => (by cases h)⟩
def y155 : TI := ⟨1, 8, Go.Value.nilFunc, .sca⟩
theorem e155 : Ent Go.Proofs.Try.prog (155, y155) := ent_sca Go.Proofs.Try.type155 Go.Proofs.Try.underlying155 rfl rfl rfl rfl rfl rfl ⟨fun _ h => (by cases h), fun _ _ h => (by cases h)⟩
def y156 : TI := ⟨1, 8, Go.Value.nilFunc, .sca⟩
theorem e156 : Ent Go.Proofs.Try.prog (156, y156) := ent_sca Go.Proofs.Try.type156 Go.Proofs.Try.underlying156 rfl rfl rfl rfl rfl rfl ⟨fun _ h => (by cases h), fun _ _ h => (by cases h)⟩
def y157 : TI := ⟨1, 8, Go.Value.nilFunc, .sca⟩
theorem e157 : Ent Go.Proofs.Try.prog (157, y157) := ent_sca Go.Proofs.Try.type157 Go.Proofs.Try.underlying157 rfl rfl rfl rfl rfl rfl ⟨fun _ h => (by cases h), fun _ _ h => (by cases h)⟩
def y158 : TI := ⟨1, 8, (Go.Value.pointer none), .sca⟩
theorem e158 : Ent Go.Proofs.Try.prog (158, y158) := ent_sca Go.Proofs.Try.type158 Go.Proofs.Try.underlying158 rfl rfl rfl rfl rfl rfl ⟨fun _ h => (by cases h), fun _ _ h => (by cases h)⟩
def y159 : TI := ⟨1, 8, Go.Value.nilFunc, .sca⟩
theorem e159 : Ent Go.Proofs.Try.prog (159, y159) := ent_sca Go.Proofs.Try.type159 Go.Proofs.Try.underlying159 rfl rfl rfl rfl rfl rfl ⟨fun _ h => (by cases h), fun _ _ h => (by cases h)⟩
def y160 : TI := ⟨1, 8, (Go.Value.pointer none), .sca⟩
theorem e160 : Ent Go.Proofs.Try.prog (160, y160) := ent_sca Go.Proofs.Try.type160 Go.Proofs.Try.underlying160 rfl rfl rfl rfl rfl rfl ⟨fun _ h => (by cases h), fun _ _ h => (by cases h)⟩
def y161 : TI := ⟨1, 8, Go.Value.nilFunc, .sca⟩
theorem e161 : Ent Go.Proofs.Try.prog (161, y161) := ent_sca Go.Proofs.Try.type161 Go.Proofs.Try.underlying161 rfl rfl rfl rfl rfl rfl ⟨fun _ h => (by cases h), fun _ _ h => (by cases h)⟩
def y162 : TI := ⟨1, 8, Go.Value.nilFunc, .sca⟩
theorem e162 : Ent Go.Proofs.Try.prog (162, y162) := ent_sca Go.Proofs.Try.type162 Go.Proofs.Try.underlying162 rfl rfl rfl rfl rfl rfl ⟨fun _ h => (by cases h), fun _ _ h => (by cases h)⟩
def y163 : TI := ⟨1, 8, Go.Value.nilFunc, .sca⟩
theorem e163 : Ent Go.Proofs.Try.prog (163, y163) := ent_sca Go.Proofs.Try.type163 Go.Proofs.Try.underlying163 rfl rfl rfl rfl rfl rfl ⟨fun _ h => (by cases h), fun _ _ h => (by cases h)⟩
def y164 : TI := ⟨1, 8, Go.Value.nilFunc, .sca⟩
theorem e164 : Ent Go.Proofs.Try.prog (164, y164) := ent_sca Go.Proofs.Try.type164 Go.Proofs.Try.underlying164 rfl rfl rfl rfl rfl rfl ⟨fun _ h => (by cases h), fun _ _ h => (by cases h)⟩
def y165 : TI := ⟨1, 8, Go.Value.nilFunc, .sca⟩
theorem e165 : Ent Go.Proofs.Try.prog (165, y165) := ent_sca Go.Proofs.Try.type165 Go.Proofs.Try.underlying165 rfl rfl rfl rfl rfl rfl ⟨fun _ h => (by cases h), fun _ _ h => (by cases h)⟩
def y166 : TI := ⟨1, 8, (Go.Value.pointer none), .sca⟩
theorem e166 : Ent Go.Proofs.Try.prog (166, y166) := ent_sca Go.Proofs.Try.type166 Go.Proofs.Try.underlying166 rfl rfl rfl rfl rfl rfl ⟨fun _ h => (by cases h), fun _ _ h => (by cases h)⟩
def y167 : TI := ⟨2, 16, (Go.Value.agg #[(Go.Value.int Go.IntKind.i64 0), (Go.Value.bool false)]), .st [(0, 1), (1, 1)]⟩
theorem e167 : Ent Go.Proofs.Try.prog (167, y167) := ent_agg [(Go.Value.int Go.IntKind.i64 0), (Go.Value.bool false)] Go.Proofs.Try.type167 Go.Proofs.Try.underlying167 rfl rfl rfl rfl rfl rfl rfl ⟨_, rfl, rfl, fun j o s hj => by
    match j, hj with
    | 0, hj => cases hj; exact ⟨_, rfl, rfl, fld rfl Go.Proofs.Try.type3 rfl, by decide⟩
    | 1, hj => cases hj; exact ⟨_, rfl, rfl, fld rfl Go.Proofs.Try.type4 rfl, by decide⟩
    | j + 2, hj => cases hj⟩
def y168 : TI := ⟨2, 16, (Go.Value.agg #[(Go.Value.int Go.IntKind.i64 0), (Go.Value.bool false)]), .st [(0, 1), (1, 1)]⟩
theorem e168 : Ent Go.Proofs.Try.prog (168, y168) := ent_agg [(Go.Value.int Go.IntKind.i64 0), (Go.Value.bool false)] Go.Proofs.Try.type168 Go.Proofs.Try.underlying168 rfl rfl rfl rfl rfl rfl rfl ⟨_, rfl, rfl, fun j o s hj => by
    match j, hj with
    | 0, hj => cases hj; exact ⟨_, rfl, rfl, fld rfl Go.Proofs.Try.type3 rfl, by decide⟩
    | 1, hj => cases hj; exact ⟨_, rfl, rfl, fld rfl Go.Proofs.Try.type4 rfl, by decide⟩
    | j + 2, hj => cases hj⟩
def y169 : TI := ⟨1, 8, Go.Value.nilFunc, .sca⟩
theorem e169 : Ent Go.Proofs.Try.prog (169, y169) := ent_sca Go.Proofs.Try.type169 Go.Proofs.Try.underlying169 rfl rfl rfl rfl rfl rfl ⟨fun _ h => (by cases h), fun _ _ h => (by cases h)⟩
def y170 : TI := ⟨1, 8, Go.Value.nilFunc, .sca⟩
theorem e170 : Ent Go.Proofs.Try.prog (170, y170) := ent_sca Go.Proofs.Try.type170 Go.Proofs.Try.underlying170 rfl rfl rfl rfl rfl rfl ⟨fun _ h => (by cases h), fun _ _ h => (by cases h)⟩
def y171 : TI := ⟨3, 24, (Go.Value.agg #[(Go.Value.int Go.IntKind.i64 0), (Go.Value.int Go.IntKind.i64 0), (Go.Value.bool false)]), .st [(0, 1), (1, 1), (2, 1)]⟩
theorem e171 : Ent Go.Proofs.Try.prog (171, y171) := ent_agg [(Go.Value.int Go.IntKind.i64 0), (Go.Value.int Go.IntKind.i64 0), (Go.Value.bool false)] Go.Proofs.Try.type171 Go.Proofs.Try.underlying171 rfl rfl rfl rfl rfl rfl rfl ⟨_, rfl, rfl, fun j o s hj => by
    match j, hj with
    | 0, hj => cases hj; exact ⟨_, rfl, rfl, fld rfl Go.Proofs.Try.type3 rfl, by decide⟩
    | 1, hj => cases hj; exact ⟨_, rfl, rfl, fld rfl Go.Proofs.Try.type3 rfl, by decide⟩
    | 2, hj => cases hj; exact ⟨_, rfl, rfl, fld rfl Go.Proofs.Try.type4 rfl, by decide⟩
    | j + 3, hj => cases hj⟩
def y172 : TI := ⟨3, 24, (Go.Value.agg #[(Go.Value.int Go.IntKind.i64 0), (Go.Value.int Go.IntKind.i64 0), (Go.Value.bool false)]), .st [(0, 1), (1, 1), (2, 1)]⟩
theorem e172 : Ent Go.Proofs.Try.prog (172, y172) := ent_agg [(Go.Value.int Go.IntKind.i64 0), (Go.Value.int Go.IntKind.i64 0), (Go.Value.bool false)] Go.Proofs.Try.type172 Go.Proofs.Try.underlying172 rfl rfl rfl rfl rfl rfl rfl ⟨_, rfl, rfl, fun j o s hj => by
    match j, hj with
    | 0, hj => cases hj; exact ⟨_, rfl, rfl, fld rfl Go.Proofs.Try.type3 rfl, by decide⟩
    | 1, hj => cases hj; exact ⟨_, rfl, rfl, fld rfl Go.Proofs.Try.type3 rfl, by decide⟩
    | 2, hj => cases hj; exact ⟨_, rfl, rfl, fld rfl Go.Proofs.Try.type4 rfl, by decide⟩
    | j + 3, hj => cases hj⟩
def y173 : TI := ⟨1, 8, Go.Value.nilFunc, .sca⟩
theorem e173 : Ent Go.Proofs.Try.prog (173, y173) := ent_sca Go.Proofs.Try.type173 Go.Proofs.Try.underlying173 rfl rfl rfl rfl rfl rfl ⟨fun _ h => (by cases h), fun _ _ h => (by cases h)⟩
def y174 : TI := ⟨3, 40, (Go.Value.agg #[(Go.Value.slice none 0 0), (Go.Value.int Go.IntKind.i64 0), (Go.Value.int Go.IntKind.i64 0)]), .st [(0, 1), (1, 1), (2, 1)]⟩
theorem e174 : Ent Go.Proofs.Try.prog (174, y174) := ent_agg [(Go.Value.slice none 0 0), (Go.Value.int Go.IntKind.i64 0), (Go.Value.int Go.IntKind.i64 0)] Go.Proofs.Try.type174 Go.Proofs.Try.underlying174 rfl rfl rfl rfl rfl rfl rfl ⟨_, rfl, rfl, fun j o s hj => by
    match j, hj with
    | 0, hj => cases hj; exact ⟨_, rfl, rfl, fld rfl Go.Proofs.Try.type45 rfl, by decide⟩
    | 1, hj => cases hj; exact ⟨_, rfl, rfl, fld rfl Go.Proofs.Try.type3 rfl, by decide⟩
    | 2, hj => cases hj; exact ⟨_, rfl, rfl, fld rfl Go.Proofs.Try.type3 rfl, by decide⟩
    | j + 3, hj => cases hj⟩
def y175 : TI := ⟨3, 40, (Go.Value.agg #[(Go.Value.slice none 0 0), (Go.Value.int Go.IntKind.i64 0), (Go.Value.int Go.IntKind.i64 0)]), .st [(0, 1), (1, 1), (2, 1)]⟩
theorem e175 : Ent Go.Proofs.Try.prog (175, y175) := ent_agg [(Go.Value.slice none 0 0), (Go.Value.int Go.IntKind.i64 0), (Go.Value.int Go.IntKind.i64 0)] Go.Proofs.Try.type175 Go.Proofs.Try.underlying175 rfl rfl rfl rfl rfl rfl rfl ⟨_, rfl, rfl, fun j o s hj => by
    match j, hj with
    | 0, hj => cases hj; exact ⟨_, rfl, rfl, fld rfl Go.Proofs.Try.type45 rfl, by decide⟩
    | 1, hj => cases hj; exact ⟨_, rfl, rfl, fld rfl Go.Proofs.Try.type3 rfl, by decide⟩
    | 2, hj => cases hj; exact ⟨_, rfl, rfl, fld rfl Go.Proofs.Try.type3 rfl, by decide⟩
    | j + 3, hj => cases hj⟩
def y176 : TI := ⟨1, 8, Go.Value.nilFunc, .sca⟩
theorem e176 : Ent Go.Proofs.Try.prog (176, y176) := ent_sca Go.Proofs.Try.type176 Go.Proofs.Try.underlying176 rfl rfl rfl rfl rfl rfl ⟨fun _ h => (by cases h), fun _ _ h => (by cases h)⟩
def y177 : TI := ⟨1, 8, Go.Value.nilFunc, .sca⟩
theorem e177 : Ent Go.Proofs.Try.prog (177, y177) := ent_sca Go.Proofs.Try.type177 Go.Proofs.Try.underlying177 rfl rfl rfl rfl rfl rfl ⟨fun _ h => (by cases h), fun _ _ h => (by cases h)⟩
def y178 : TI := ⟨1, 8, Go.Value.nilFunc, .sca⟩
theorem e178 : Ent Go.Proofs.Try.prog (178, y178) := ent_sca Go.Proofs.Try.type178 Go.Proofs.Try.underlying178 rfl rfl rfl rfl rfl rfl ⟨fun _ h => (by cases h), fun _ _ h => (by cases h)⟩
def y179 : TI := ⟨4, 32, (Go.Value.agg #[(Go.Value.int Go.IntKind.i64 0), (Go.Value.int Go.IntKind.i64 0), (Go.Value.int Go.IntKind.i64 0), (Go.Value.int Go.IntKind.i64 0)]), .arr 4 3⟩
theorem e179 : Ent Go.Proofs.Try.prog (179, y179) := ent_agg [(Go.Value.int Go.IntKind.i64 0), (Go.Value.int Go.IntKind.i64 0), (Go.Value.int Go.IntKind.i64 0), (Go.Value.int Go.IntKind.i64 0)] Go.Proofs.Try.type179 Go.Proofs.Try.underlying179 rfl rfl rfl rfl rfl rfl rfl rfl
def y180 : TI := ⟨1, 8, (Go.Value.pointer none), .sca⟩
theorem e180 : Ent Go.Proofs.Try.prog (180, y180) := ent_sca Go.Proofs.Try.type180 Go.Proofs.Try.underlying180 rfl rfl rfl rfl rfl rfl ⟨fun _ h => (by cases h), fun _ _ h => (by cases h)⟩
def y181 : TI := ⟨1, 8, Go.Value.nilFunc, .sca⟩
theorem e181 : Ent Go.Proofs.Try.prog (181, y181) := ent_sca Go.Proofs.Try.type181 Go.Proofs.Try.underlying181 rfl rfl rfl rfl rfl rfl ⟨fun _ h => (by cases h), fun _ _ h => (by cases h)⟩
def y182 : TI := ⟨1, 8, Go.Value.nilFunc, .sca⟩
theorem e182 : Ent Go.Proofs.Try.prog (182, y182) := ent_sca Go.Proofs.Try.type182 Go.Proofs.Try.underlying182 rfl rfl rfl rfl rfl rfl ⟨fun _ h => (by cases h), fun _ _ h => (by cases h)⟩
def y183 : TI := ⟨1, 8, (Go.Value.int Go.IntKind.u64 0), .int Go.IntKind.u64⟩
theorem e183 : Ent Go.Proofs.Try.prog (183, y183) := ent_sca Go.Proofs.Try.type183 Go.Proofs.Try.underlying183 rfl rfl rfl rfl rfl rfl rfl
def y184 : TI := ⟨1, 8, Go.Value.nilFunc, .sca⟩
theorem e184 : Ent Go.Proofs.Try.prog (184, y184) := ent_sca Go.Proofs.Try.type184 Go.Proofs.Try.underlying184 rfl rfl rfl rfl rfl rfl ⟨fun _ h => (by cases h), fun _ _ h => (by cases h)⟩
def y185 : TI := ⟨1, 8, Go.Value.nilFunc, .sca⟩
theorem e185 : Ent Go.Proofs.Try.prog (185, y185) := ent_sca Go.Proofs.Try.type185 Go.Proofs.Try.underlying185 rfl rfl rfl rfl rfl rfl ⟨fun _ h => (by cases h), fun _ _ h => (by cases h)⟩
def y186 : TI := ⟨1, 8, Go.Value.nilFunc, .sca⟩
theorem e186 : Ent Go.Proofs.Try.prog (186, y186) := ent_sca Go.Proofs.Try.type186 Go.Proofs.Try.underlying186 rfl rfl rfl rfl rfl rfl ⟨fun _ h => (by cases h), fun _ _ h => (by cases h)⟩
def y187 : TI := ⟨1, 8, Go.Value.nilFunc, .sca⟩
theorem e187 : Ent Go.Proofs.Try.prog (187, y187) := ent_sca Go.Proofs.Try.type187 Go.Proofs.Try.underlying187 rfl rfl rfl rfl rfl rfl ⟨fun _ h => (by cases h), fun _ _ h => (by cases h)⟩
def y188 : TI := ⟨1, 8, Go.Value.nilFunc, .sca⟩
theorem e188 : Ent Go.Proofs.Try.prog (188, y188) := ent_sca Go.Proofs.Try.type188 Go.Proofs.Try.underlying188 rfl rfl rfl rfl rfl rfl ⟨fun _ h => (by cases h), fun _ _ h => (by cases h)⟩
def y189 : TI := ⟨1, 8, (Go.Value.pointer none), .sca⟩
theorem e189 : Ent Go.Proofs.Try.prog (189, y189) := ent_sca Go.Proofs.Try.type189 Go.Proofs.Try.underlying189 rfl rfl rfl rfl rfl rfl ⟨fun _ h => (by cases h), fun _ _ h => (by cases h)⟩
def y190 : TI := ⟨3, 24, (Go.Value.agg #[(Go.Value.int Go.IntKind.i64 0), (Go.Value.int Go.IntKind.i64 0), (Go.Value.int Go.IntKind.i64 0)]), .arr 3 3⟩
theorem e190 : Ent Go.Proofs.Try.prog (190, y190) := ent_agg [(Go.Value.int Go.IntKind.i64 0), (Go.Value.int Go.IntKind.i64 0), (Go.Value.int Go.IntKind.i64 0)] Go.Proofs.Try.type190 Go.Proofs.Try.underlying190 rfl rfl rfl rfl rfl rfl rfl rfl
def y191 : TI := ⟨1, 8, Go.Value.nilFunc, .sca⟩
theorem e191 : Ent Go.Proofs.Try.prog (191, y191) := ent_sca Go.Proofs.Try.type191 Go.Proofs.Try.underlying191 rfl rfl rfl rfl rfl rfl ⟨fun _ h => (by cases h), fun _ _ h => (by cases h)⟩
def y192 : TI := ⟨1, 8, Go.Value.nilFunc, .sca⟩
theorem e192 : Ent Go.Proofs.Try.prog (192, y192) := ent_sca Go.Proofs.Try.type192 Go.Proofs.Try.underlying192 rfl rfl rfl rfl rfl rfl ⟨fun _ h => (by cases h), fun _ _ h => (by cases h)⟩
def y193 : TI := ⟨1, 8, Go.Value.nilFunc, .sca⟩
theorem e193 : Ent Go.Proofs.Try.prog (193, y193) := ent_sca Go.Proofs.Try.type193 Go.Proofs.Try.underlying193 rfl rfl rfl rfl rfl rfl ⟨fun _ h => (by cases h), fun _ _ h => (by cases h)⟩
def y194 : TI := ⟨1, 8, Go.Value.nilFunc, .sca⟩
theorem e194 : Ent Go.Proofs.Try.prog (194, y194) := ent_sca Go.Proofs.Try.type194 Go.Proofs.Try.underlying194 rfl rfl rfl rfl rfl rfl ⟨fun _ h => (by cases h), fun _ _ h => (by cases h)⟩
def y195 : TI := ⟨1, 8, Go.Value.nilFunc, .sca⟩
theorem e195 : Ent Go.Proofs.Try.prog (195, y195) := ent_sca Go.Proofs.Try.type195 Go.Proofs.Try.underlying195 rfl rfl rfl rfl rfl rfl ⟨fun _ h => (by cases h), fun _ _ h => (by cases h)⟩
def y196 : TI := ⟨1, 8, (Go.Value.pointer none), .sca⟩
theorem e196 : Ent Go.Proofs.Try.prog (196, y196) := ent_sca Go.Proofs.Try.type196 Go.Proofs.Try.underlying196 rfl rfl rfl rfl rfl rfl ⟨fun _ h => (by cases h), fun _ _ h => (by cases h)⟩
def y197 : TI := ⟨1, 8, Go.Value.nilFunc, .sca⟩
theorem e197 : Ent Go.Proofs.Try.prog (197, y197) := ent_sca Go.Proofs.Try.type197 Go.Proofs.Try.underlying197 rfl rfl rfl rfl rfl rfl ⟨fun _ h => (by cases h), fun _ _ h => (by cases h)⟩
def y198 : TI := ⟨1, 8, Go.Value.nilFunc, .sca⟩
theorem e198 : Ent Go.Proofs.Try.prog (198, y198) := ent_sca Go.Proofs.Try.type198 Go.Proofs.Try.underlying198 rfl rfl rfl rfl rfl rfl ⟨fun _ h => (by cases h), fun _ _ h => (by cases h)⟩
def y199 : TI := ⟨1, 8, Go.Value.nilFunc, .sca⟩
theorem e199 : Ent Go.Proofs.Try.prog (199, y199) := ent_sca Go.Proofs.Try.type199 Go.Proofs.Try.underlying199 rfl rfl rfl rfl rfl rfl ⟨fun _ h => (by cases h), fun _ _ h => (by cases h)⟩
def y200 : TI := ⟨1, 8, Go.Value.nilFunc, .sca⟩
theorem e200 : Ent Go.Proofs.Try.prog (200, y200) := ent_sca Go.Proofs.Try.type200 Go.Proofs.Try.underlying200 rfl rfl rfl rfl rfl rfl ⟨fun _ h => (by cases h), fun _ _ h => (by cases h)⟩
def y201 : TI := ⟨1, 8, Go.Value.nilFunc, .sca⟩
theorem e201 : Ent Go.Proofs.Try.prog (201, y201) := ent_sca Go.Proofs.Try.type201 Go.Proofs.Try.underlying201 rfl rfl rfl rfl rfl rfl ⟨fun _ h => (by cases h), fun _ _ h => (by cases h)⟩
def y202 : TI := ⟨1, 8, Go.Value.nilFunc, .sca⟩
theorem e202 : Ent Go.Proofs.Try.prog (202, y202) := ent_sca Go.Proofs.Try.type202 Go.Proofs.Try.underlying202 rfl rfl rfl rfl rfl rfl ⟨fun _ h => (by cases h), fun _ _ h => (by cases h)⟩
def y203 : TI := ⟨1, 8, (Go.Value.pointer none), .sca⟩
theorem e203 : Ent Go.Proofs.Try.prog (203, y203) := ent_sca Go.Proofs.Try.type203 Go.Proofs.Try.underlying203 rfl rfl rfl rfl rfl rfl ⟨fun _ h => (by cases h), fun _ _ h => (by cases h)⟩
def y204 : TI := ⟨1, 8, Go.Value.nilFunc, .sca⟩
theorem e204 : Ent Go.Proofs.Try.prog (204, y204) := ent_sca Go.Proofs.Try.type204 Go.Proofs.Try.underlying204 rfl rfl rfl rfl rfl rfl ⟨fun _ h => (by cases h), fun _ _ h => (by cases h)⟩
def y206 : TI := ⟨1, 8, Go.Value.nilFunc, .sca⟩
theorem e206 : Ent Go.Proofs.Try.prog (206, y206) := ent_sca Go.Proofs.Try.type206 Go.Proofs.Try.underlying206 rfl rfl rfl rfl rfl rfl ⟨fun _ h => (by cases h), fun _ _ h => (by cases h)⟩
def y207 : TI := ⟨1, 8, Go.Value.nilFunc, .sca⟩
theorem e207 : Ent Go.Proofs.Try.prog (207, y207) := ent_sca Go.Proofs.Try.type207 Go.Proofs.Try.underlying207 rfl rfl rfl rfl rfl rfl ⟨fun _ h => (by cases h), fun _ _ h => (by cases h)⟩
def y208 : TI := ⟨1, 8, Go.Value.nilFunc, .sca⟩
theorem e208 : Ent Go.Proofs.Try.prog (208, y208) := ent_sca Go.Proofs.Try.type208 Go.Proofs.Try.underlying208 rfl rfl rfl rfl rfl rfl ⟨fun _ h => (by cases h), fun _ _ h => (by cases h)⟩
def y209 : TI := ⟨1, 8, Go.Value.nilFunc, .sca⟩
theorem e209 : Ent Go.Proofs.Try.prog (209, y209) := ent_sca Go.Proofs.Try.type209 Go.Proofs.Try.underlying209 rfl rfl rfl rfl rfl rfl ⟨fun _ h => (by cases h), fun _ _ h => (by cases h)⟩
def y210 : TI := ⟨1, 8, Go.Value.nilFunc, .sca⟩
theorem e210 : Ent Go.Proofs.Try.prog (210, y210) := ent_sca Go.Proofs.Try.type210 Go.Proofs.Try.underlying210 rfl rfl rfl rfl rfl rfl ⟨fun _ h => (by cases h), fun _ _ h => (by cases h)⟩
def y211 : TI := ⟨1, 8, Go.Value.nilFunc, .sca⟩
theorem e211 : Ent Go.Proofs.Try.prog (211, y211) := ent_sca Go.Proofs.Try.type211 Go.Proofs.Try.underlying211 rfl rfl rfl rfl rfl rfl ⟨fun _ h => (by cases h), fun _ _ h => (by cases h)⟩
def y212 : TI := ⟨1, 8, Go.Value.nilFunc, .sca⟩
theorem e212 : Ent Go.Proofs.Try.prog (212, y212) := ent_sca Go.Proofs.Try.type212 Go.Proofs.Try.underlying212 rfl rfl rfl rfl rfl rfl ⟨fun _ h => (by cases h), fun _ _ h => (by cases h)⟩
def y213 : TI := ⟨1, 8, Go.Value.nilFunc, .sca⟩
theorem e213 : Ent Go.Proofs.Try.prog (213, y213) := ent_sca Go.Proofs.Try.type213 Go.Proofs.Try.underlying213 rfl rfl rfl rfl rfl rfl ⟨fun _ h => (by cases h), fun _ _ h => (by cases h)⟩
def y214 : TI := ⟨1, 8, Go.Value.nilFunc, .sca⟩
theorem e214 : Ent Go.Proofs.Try.prog (214, y214) := ent_sca Go.Proofs.Try.type214 Go.Proofs.Try.underlying214 rfl rfl rfl rfl rfl rfl ⟨fun _ h => (by cases h), fun _ _ h => (by cases h)⟩
def y215 : TI := ⟨1, 8, Go.Value.nilFunc, .sca⟩
theorem e215 : Ent Go.Proofs.Try.prog (215, y215) := ent_sca Go.Proofs.Try.type215 Go.Proofs.Try.underlying215 rfl rfl rfl rfl rfl rfl ⟨fun _ h => (by cases h), fun _ _ h => (by cases h)⟩
def y216 : TI := ⟨1, 8, Go.Value.nilFunc, .sca⟩
theorem e216 : Ent Go.Proofs.Try.prog (216, y216) := ent_sca Go.Proofs.Try.type216 Go.Proofs.Try.underlying216 rfl rfl rfl rfl rfl rfl ⟨fun _ h => (by cases h), fun _ _ h => (by cases h)⟩
def y217 : TI := ⟨1, 8, Go.Value.nilFunc, .sca⟩
theorem e217 : Ent Go.Proofs.Try.prog (217, y217) := ent_sca Go.Proofs.Try.type217 Go.Proofs.Try.underlying217 rfl rfl rfl rfl rfl rfl ⟨fun _ h => (by cases h), fun _ _ h => (by cases h)⟩
def y218 : TI := ⟨1, 8, Go.Value.nilFunc, .sca⟩
theorem e218 : Ent Go.Proofs.Try.prog (218, y218) := ent_sca Go.Proofs.Try.type218 Go.Proofs.Try.underlying218 rfl rfl rfl rfl rfl rfl ⟨fun _ h => (by cases h), fun _ _ h => (by cases h)⟩
def y219 : TI := ⟨1, 8, Go.Value.nilFunc, .sca⟩
theorem e219 : Ent Go.Proofs.Try.prog (219, y219) := ent_sca Go.Proofs.Try.type219 Go.Proofs.Try.underlying219 rfl rfl rfl rfl rfl rfl ⟨fun _ h => (by cases h), fun _ _ h => (by cases h)⟩
def y220 : TI := ⟨1, 8, Go.Value.nilFunc, .sca⟩
theorem e220 : Ent Go.Proofs.Try.prog (220, y220) := ent_sca Go.Proofs.Try.type220 Go.Proofs.Try.underlying220 rfl rfl rfl rfl rfl rfl ⟨fun _ h => (by cases h), fun _ _ h => (by cases h)⟩
def y221 : TI := ⟨1, 8, Go.Value.nilFunc, .sca⟩
theorem e221 : Ent Go.Proofs.Try.prog (221, y221) := ent_sca Go.Proofs.Try.type221 Go.Proofs.Try.underlying221 rfl rfl rfl rfl rfl rfl ⟨fun _ h => (by cases h), fun _ _ h => (by cases h)⟩
def y222 : TI := ⟨1, 8, (Go.Value.int Go.IntKind.i64 0), .int Go.IntKind.i64⟩
theorem e222 : Ent Go.Proofs.Try.prog (222, y222) := ent_sca Go.Proofs.Try.type222 Go.Proofs.Try.underlying222 rfl rfl rfl rfl rfl rfl rfl
def y224 : TI := ⟨1, 8, Go.Value.nilFunc, .sca⟩
theorem e224 : Ent Go.Proofs.Try.prog (224, y224) := ent_sca Go.Proofs.Try.type224 Go.Proofs.Try.underlying224 rfl rfl rfl rfl rfl rfl ⟨fun _ h => (by cases h), fun _ _ h => (by cases h)⟩
def y225 : TI := ⟨1, 8, Go.Value.nilFunc, .sca⟩
theorem e225 : Ent Go.Proofs.Try.prog (225, y225) := ent_sca Go.Proofs.Try.type225 Go.Proofs.Try.underlying225 rfl rfl rfl rfl rfl rfl ⟨fun _ h => (by cases h), fun _ _ h => (by cases h)⟩
def y226 : TI := ⟨1, 8, Go.Value.nilFunc, .sca⟩
theorem e226 : Ent Go.Proofs.Try.prog (226, y226) := ent_sca Go.Proofs.Try.type226 Go.Proofs.Try.underlying226 rfl rfl rfl rfl rfl rfl ⟨fun _ h => (by cases h), fun _ _ h => (by cases h)⟩
def y227 : TI := ⟨1, 8, Go.Value.nilFunc, .sca⟩
theorem e227 : Ent Go.Proofs.Try.prog (227, y227) := ent_sca Go.Proofs.Try.type227 Go.Proofs.Try.underlying227 rfl rfl rfl rfl rfl rfl ⟨fun _ h => (by cases h), fun _ _ h => (by cases h)⟩
def y228 : TI := ⟨1, 8, Go.Value.nilFunc, .sca⟩
theorem e228 : Ent Go.Proofs.Try.prog (228, y228) := ent_sca Go.Proofs.Try.type228 Go.Proofs.Try.underlying228 rfl rfl rfl rfl rfl rfl ⟨fun _ h => (by cases h), fun _ _ h => (by cases h)⟩
def y229 : TI := ⟨1, 4, (Go.Value.int Go.IntKind.u32 0), .int Go.IntKind.u32⟩
theorem e229 : Ent Go.Proofs.Try.prog (229, y229) := ent_sca Go.Proofs.Try.type229 Go.Proofs.Try.underlying229 rfl rfl rfl rfl rfl rfl rfl
def y230 : TI := ⟨1, 8, Go.Value.nilFunc, .sca⟩
theorem e230 : Ent Go.Proofs.Try.prog (230, y230) := ent_sca Go.Proofs.Try.type230 Go.Proofs.Try.underlying230 rfl rfl rfl rfl rfl rfl ⟨fun _ h => (by cases h), fun _ _ h => (by cases h)⟩
def y231 : TI := ⟨1, 8, (Go.Value.int Go.IntKind.u64 0), .int Go.IntKind.u64⟩
theorem e231 : Ent Go.Proofs.Try.prog (231, y231) := ent_sca Go.Proofs.Try.type231 Go.Proofs.Try.underlying231 rfl rfl rfl rfl rfl rfl rfl
def y232 : TI := ⟨1, 8, Go.Value.nilFunc, .sca⟩
theorem e232 : Ent Go.Proofs.Try.prog (232, y232) := ent_sca Go.Proofs.Try.type232 Go.Proofs.Try.underlying232 rfl rfl rfl rfl rfl rfl ⟨fun _ h => (by cases h), fun _ _ h => (by cases h)⟩
def y233 : TI := ⟨1, 8, Go.Value.nilFunc, .sca⟩
theorem e233 : Ent Go.Proofs.Try.prog (233, y233) := ent_sca Go.Proofs.Try.type233 Go.Proofs.Try.underlying233 rfl rfl rfl rfl rfl rfl ⟨fun _ h => (by cases h), fun _ _ h => (by cases h)⟩
def y234 : TI := ⟨1, 8, Go.Value.nilFunc, .sca⟩
theorem e234 : Ent Go.Proofs.Try.prog (234, y234) := ent_sca Go.Proofs.Try.type234 Go.Proofs.Try.underlying234 rfl rfl rfl rfl rfl rfl ⟨fun _ h => (by cases h), fun _ _ h => (by cases h)⟩
def y235 : TI := ⟨1, 8, (Go.Value.pointer none), .sca⟩
theorem e235 : Ent Go.Proofs.Try.prog (235, y235) := ent_sca Go.Proofs.Try.type235 Go.Proofs.Try.underlying235 rfl rfl rfl rfl rfl rfl ⟨fun _ h => (by cases h), fun _ _ h => (by cases h)⟩
def y236 : TI := ⟨1, 8, Go.Value.nilFunc, .sca⟩
theorem e236 : Ent Go.Proofs.Try.prog (236, y236) := ent_sca Go.Proofs.Try.type236 Go.Proofs.Try.underlying236 rfl rfl rfl rfl rfl rfl ⟨fun _ h => (by cases h), fun _ _ h => (by cases h)⟩
def y237 : TI := ⟨1, 8, (Go.Value.pointer none), .sca⟩
theorem e237 : Ent Go.Proofs.Try.prog (237, y237) := ent_sca Go.Proofs.Try.type237 Go.Proofs.Try.underlying237 rfl rfl rfl rfl rfl rfl ⟨fun _ h => (by cases h), fun _ _ h => (by cases h)⟩
def y238 : TI := ⟨1, 8, Go.Value.nilFunc, .sca⟩
theorem e238 : Ent Go.Proofs.Try.prog (238, y238) := ent_sca Go.Proofs.Try.type238 Go.Proofs.Try.underlying238 rfl rfl rfl rfl rfl rfl ⟨fun _ h => (by cases h), fun _ _ h => (by cases h)⟩
def y239 : TI := ⟨4, 40, (Go.Value.agg #[(Go.Value.pointer none), (Go.Value.pointer none), (Go.Value.pointer none), (Go.Value.string { data := #[] })]), .st [(0, 1), (1, 1), (2, 1), (3, 1)]⟩
theorem e239 : Ent Go.Proofs.Try.prog (239, y239) := ent_agg [(Go.Value.pointer none), (Go.Value.pointer none), (Go.Value.pointer none), (Go.Value.string { data := #[] })] Go.Proofs.Try.type239 Go.Proofs.Try.underlying239 rfl rfl rfl rfl rfl rfl rfl ⟨_, rfl, rfl, fun j o s hj => by
    match j, hj with
    | 0, hj => cases hj; exact ⟨_, rfl, rfl, fld rfl Go.Proofs.Try.type17 rfl, by decide⟩
    | 1, hj => cases hj; exact ⟨_, rfl, rfl, fld rfl Go.Proofs.Try.type17 rfl, by decide⟩
    | 2, hj => cases hj; exact ⟨_, rfl, rfl, fld rfl Go.Proofs.Try.type17 rfl, by decide⟩
    | 3, hj => cases hj; exact ⟨_, rfl, rfl, fld rfl Go.Proofs.Try.type9 rfl, by decide⟩
    | j + 4, hj => cases hj⟩
def y240 : TI := ⟨4, 40, (Go.Value.agg #[(Go.Value.pointer none), (Go.Value.pointer none), (Go.Value.pointer none), (Go.Value.string { data := #[] })]), .st [(0, 1), (1, 1), (2, 1), (3, 1)]⟩
theorem e240 : Ent Go.Proofs.Try.prog (240, y240) := ent_agg [(Go.Value.pointer none), (Go.Value.pointer none), (Go.Value.pointer none), (Go.Value.string { data := #[] })] Go.Proofs.Try.type240 Go.Proofs.Try.underlying240 rfl rfl rfl rfl rfl rfl rfl ⟨_, rfl, rfl, fun j o s hj => by
    match j, hj with
    | 0, hj => cases hj; exact ⟨_, rfl, rfl, fld rfl Go.Proofs.Try.type17 rfl, by decide⟩
    | 1, hj => cases hj; exact ⟨_, rfl, rfl, fld rfl Go.Proofs.Try.type17 rfl, by decide⟩
    | 2, hj => cases hj; exact ⟨_, rfl, rfl, fld rfl Go.Proofs.Try.type17 rfl, by decide⟩
    | 3, hj => cases hj; exact ⟨_, rfl, rfl, fld rfl Go.Proofs.Try.type9 rfl, by decide⟩
    | j + 4, hj => cases hj⟩
def y244 : TI := ⟨1, 8, Go.Value.nilFunc, .sca⟩
theorem e244 : Ent Go.Proofs.Try.prog (244, y244) := ent_sca Go.Proofs.Try.type244 Go.Proofs.Try.underlying244 rfl rfl rfl rfl rfl rfl ⟨fun _ h => (by cases h), fun _ _ h => (by cases h)⟩
def y245 : TI := ⟨1, 1, (Go.Value.int Go.IntKind.u8 0), .int Go.IntKind.u8⟩
theorem e245 : Ent Go.Proofs.Try.prog (245, y245) := ent_sca Go.Proofs.Try.type245 Go.Proofs.Try.underlying245 rfl rfl rfl rfl rfl rfl rfl
def y246 : TI := ⟨1, 1, (Go.Value.int Go.IntKind.u8 0), .int Go.IntKind.u8⟩
theorem e246 : Ent Go.Proofs.Try.prog (246, y246) := ent_sca Go.Proofs.Try.type246 Go.Proofs.Try.underlying246 rfl rfl rfl rfl rfl rfl rfl
def y247 : TI := ⟨1, 8, Go.Value.nilFunc, .sca⟩
theorem e247 : Ent Go.Proofs.Try.prog (247, y247) := ent_sca Go.Proofs.Try.type247 Go.Proofs.Try.underlying247 rfl rfl rfl rfl rfl rfl ⟨fun _ h => (by cases h), fun _ _ h => (by cases h)⟩
def y248 : TI := ⟨1, 4, (Go.Value.int Go.IntKind.i32 0), .int Go.IntKind.i32⟩
theorem e248 : Ent Go.Proofs.Try.prog (248, y248) := ent_sca Go.Proofs.Try.type248 Go.Proofs.Try.underlying248 rfl rfl rfl rfl rfl rfl rfl
def y249 : TI := ⟨1, 4, (Go.Value.int Go.IntKind.i32 0), .int Go.IntKind.i32⟩
theorem e249 : Ent Go.Proofs.Try.prog (249, y249) := ent_sca Go.Proofs.Try.type249 Go.Proofs.Try.underlying249 rfl rfl rfl rfl rfl rfl rfl
def y250 : TI := ⟨11, 48, (Go.Value.agg #[(Go.Value.int Go.IntKind.u64 0), (Go.Value.int Go.IntKind.u64 0), (Go.Value.int Go.IntKind.u32 0), (Go.Value.int Go.IntKind.u8 0), (Go.Value.int Go.IntKind.u8 0), (Go.Value.int Go.IntKind.u8 0), (Go.Value.int Go.IntKind.u8 0), Go.Value.nilFunc, (Go.Value.pointer none), (Go.Value.int Go.IntKind.i32 0), (Go.Value.int Go.IntKind.i32 0)]), .st [(0, 1), (1, 1), (2, 1), (3, 1), (4, 1), (5, 1), (6, 1), (7, 1), (8, 1), (9, 1), (10, 1)]⟩
theorem e250 : Ent Go.Proofs.Try.prog (250, y250) := ent_agg [(Go.Value.int Go.IntKind.u64 0), (Go.Value.int Go.IntKind.u64 0), (Go.Value.int Go.IntKind.u32 0), (Go.Value.int Go.IntKind.u8 0), (Go.Value.int Go.IntKind.u8 0), (Go.Value.int Go.IntKind.u8 0), (Go.Value.int Go.IntKind.u8 0), Go.Value.nilFunc, (Go.Value.pointer none), (Go.Value.int Go.IntKind.i32 0), (Go.Value.int Go.IntKind.i32 0)] Go.Proofs.Try.type250 Go.Proofs.Try.underlying250 rfl rfl rfl rfl rfl rfl rfl ⟨_, rfl, rfl, fun j o s hj => by
    match j, hj with
    | 0, hj => cases hj; exact ⟨_, rfl, rfl, fld rfl Go.Proofs.Try.type12 rfl, by decide⟩
    | 1, hj => cases hj; exact ⟨_, rfl, rfl, fld rfl Go.Proofs.Try.type12 rfl, by decide⟩
    | 2, hj => cases hj; exact ⟨_, rfl, rfl, fld rfl Go.Proofs.Try.type229 rfl, by decide⟩
    | 3, hj => cases hj; exact ⟨_, rfl, rfl, fld rfl Go.Proofs.Try.type245 rfl, by decide⟩
    | 4, hj => cases hj; exact ⟨_, rfl, rfl, fld rfl Go.Proofs.Try.type5 rfl, by decide⟩
    | 5, hj => cases hj; exact ⟨_, rfl, rfl, fld rfl Go.Proofs.Try.type5 rfl, by decide⟩
    | 6, hj => cases hj; exact ⟨_, rfl, rfl, fld rfl Go.Proofs.Try.type246 rfl, by decide⟩
    | 7, hj => cases hj; exact ⟨_, rfl, rfl, fld rfl Go.Proofs.Try.type247 rfl, by decide⟩
    | 8, hj => cases hj; exact ⟨_, rfl, rfl, fld rfl Go.Proofs.Try.type160 rfl, by decide⟩
    | 9, hj => cases hj; exact ⟨_, rfl, rfl, fld rfl Go.Proofs.Try.type248 rfl, by decide⟩
    | 10, hj => cases hj; exact ⟨_, rfl, rfl, fld rfl Go.Proofs.Try.type249 rfl, by decide⟩
    | j + 11, hj => cases hj⟩
def y251 : TI := ⟨11, 48, (Go.Value.agg #[(Go.Value.int Go.IntKind.u64 0), (Go.Value.int Go.IntKind.u64 0), (Go.Value.int Go.IntKind.u32 0), (Go.Value.int Go.IntKind.u8 0), (Go.Value.int Go.IntKind.u8 0), (Go.Value.int Go.IntKind.u8 0), (Go.Value.int Go.IntKind.u8 0), Go.Value.nilFunc, (Go.Value.pointer none), (Go.Value.int Go.IntKind.i32 0), (Go.Value.int Go.IntKind.i32 0)]), .st [(0, 1), (1, 1), (2, 1), (3, 1), (4, 1), (5, 1), (6, 1), (7, 1), (8, 1), (9, 1), (10, 1)]⟩
theorem e251 : Ent Go.Proofs.Try.prog (251, y251) := ent_agg [(Go.Value.int Go.IntKind.u64 0), (Go.Value.int Go.IntKind.u64 0), (Go.Value.int Go.IntKind.u32 0), (Go.Value.int Go.IntKind.u8 0), (Go.Value.int Go.IntKind.u8 0), (Go.Value.int Go.IntKind.u8 0), (Go.Value.int Go.IntKind.u8 0), Go.Value.nilFunc, (Go.Value.pointer none), (Go.Value.int Go.IntKind.i32 0), (Go.Value.int Go.IntKind.i32 0)] Go.Proofs.Try.type251 Go.Proofs.Try.underlying251 rfl rfl rfl rfl rfl rfl rfl ⟨_, rfl, rfl, fun j o s hj => by
    match j, hj with
    | 0, hj => cases hj; exact ⟨_, rfl, rfl, fld rfl Go.Proofs.Try.type12 rfl, by decide⟩
    | 1, hj => cases hj; exact ⟨_, rfl, rfl, fld rfl Go.Proofs.Try.type12 rfl, by decide⟩
    | 2, hj => cases hj; exact ⟨_, rfl, rfl, fld rfl Go.Proofs.Try.type229 rfl, by decide⟩
    | 3, hj => cases hj; exact ⟨_, rfl, rfl, fld rfl Go.Proofs.Try.type245 rfl, by decide⟩
    | 4, hj => cases hj; exact ⟨_, rfl, rfl, fld rfl Go.Proofs.Try.type5 rfl, by decide⟩
    | 5, hj => cases hj; exact ⟨_, rfl, rfl, fld rfl Go.Proofs.Try.type5 rfl, by decide⟩
    | 6, hj => cases hj; exact ⟨_, rfl, rfl, fld rfl Go.Proofs.Try.type246 rfl, by decide⟩
    | 7, hj => cases hj; exact ⟨_, rfl, rfl, fld rfl Go.Proofs.Try.type247 rfl, by decide⟩
    | 8, hj => cases hj; exact ⟨_, rfl, rfl, fld rfl Go.Proofs.Try.type160 rfl, by decide⟩
    | 9, hj => cases hj; exact ⟨_, rfl, rfl, fld rfl Go.Proofs.Try.type248 rfl, by decide⟩
    | 10, hj => cases hj; exact ⟨_, rfl, rfl, fld rfl Go.Proofs.Try.type249 rfl, by decide⟩
    | j + 11, hj => cases hj⟩
def tyT : BT := .node 124 (.node 63 (.node 26 (.node 9 (.leaf [(1, y1), (2, y2), (3, y3), (4, y4), (5, y5), (6, y6), (7, y7), (8, y8)]) (.node 17 (.leaf [(9, y9), (10, y10), (11, y11), (12, y12), (13, y13), (14, y14), (15, y15), (16, y16)]) (.leaf [(17, y17), (18, y18), (19, y19), (21, y21), (22, y22), (23, y23), (24, y24), (25, y25)]))) (.node 43 (.node 34 (.leaf [(26, y26), (27, y27), (28, y28), (29, y29), (30, y30), (31, y31), (32, y32), (33, y33)]) (.leaf [(34, y34), (35, y35), (36, y36), (37, y37), (38, y38), (39, y39), (40, y40), (41, y41)])) (.node 53 (.leaf [(43, y43), (44, y44), (45, y45), (46, y46), (47, y47), (48, y48), (50, y50), (51, y51)]) (.leaf [(53, y53), (54, y54), (56, y56), (58, y58), (59, y59), (60, y60), (61, y61), (62, y62)])))) (.node 88 (.node 72 (.leaf [(63, y63), (64, y64), (65, y65), (66, y66), (67, y67), (68, y68), (70, y70), (71, y71)]) (.node 80 (.leaf [(72, y72), (73, y73), (74, y74), (75, y75), (76, y76), (77, y77), (78, y78), (79, y79)]) (.leaf [(80, y80), (81, y81), (82, y82), (83, y83), (84, y84), (85, y85), (86, y86), (87, y87)]))) (.node 106 (.node 98 (.leaf [(88, y88), (89, y89), (90, y90), (93, y93), (94, y94), (95, y95), (96, y96), (97, y97)]) (.leaf [(98, y98), (99, y99), (100, y100), (101, y101), (102, y102), (103, y103), (104, y104), (105, y105)])) (.node 115 (.leaf [(106, y106), (107, y107), (108, y108), (109, y109), (110, y110), (111, y111), (112, y112), (114, y114)]) (.leaf [(115, y115), (116, y116), (117, y117), (118, y118), (119, y119), (120, y120), (121, y121), (122, y122)]))))) (.node 183 (.node 151 (.node 133 (.leaf [(124, y124), (125, y125), (127, y127), (128, y128), (129, y129), (130, y130), (131, y131), (132, y132)]) (.node 141 (.leaf [(133, y133), (134, y134), (135, y135), (136, y136), (137, y137), (138, y138), (139, y139), (140, y140)]) (.leaf [(141, y141), (142, y142), (144, y144), (146, y146), (147, y147), (148, y148), (149, y149), (150, y150)]))) (.node 167 (.node 159 (.leaf [(151, y151), (152, y152), (153, y153), (154, y154), (155, y155), (156, y156), (157, y157), (158, y158)]) (.leaf [(159, y159), (160, y160), (161, y161), (162, y162), (163, y163), (164, y164), (165, y165), (166, y166)])) (.node 175 (.leaf [(167, y167), (168, y168), (169, y169), (170, y170), (171, y171), (172, y172), (173, y173), (174, y174)]) (.leaf [(175, y175), (176, y176), (177, y177), (178, y178), (179, y179), (180, y180), (181, y181), (182, y182)])))) (.node 216 (.node 199 (.node 191 (.leaf [(183, y183), (184, y184), (185, y185), (186, y186), (187, y187), (188, y188), (189, y189), (190, y190)]) (.leaf [(191, y191), (192, y192), (193, y193), (194, y194), (195, y195), (196, y196), (197, y197), (198, y198)])) (.node 208 (.leaf [(199, y199), (200, y200), (201, y201), (202, y202), (203, y203), (204, y204), (206, y206), (207, y207)]) (.leaf [(208, y208), (209, y209), (210, y210), (211, y211), (212, y212), (213, y213), (214, y214), (215, y215)]))) (.node 233 (.node 225 (.leaf [(216, y216), (217, y217), (218, y218), (219, y219), (220, y220), (221, y221), (222, y222), (224, y224)]) (.leaf [(225, y225), (226, y226), (227, y227), (228, y228), (229, y229), (230, y230), (231, y231), (232, y232)])) (.node 244 (.leaf [(233, y233), (234, y234), (235, y235), (236, y236), (237, y237), (238, y238), (239, y239), (240, y240)]) (.leaf [(244, y244), (245, y245), (246, y246), (247, y247), (248, y248), (249, y249), (250, y250), (251, y251)])))))
theorem tok : TOk Go.Proofs.Try.prog tyT.get := tok_of (b := tyT) ⟨⟨⟨⟨⟨e1, e2, e3, e4, e5, e6, e7, e8, trivial⟩, ⟨⟨e9, e10, e11, e12, e13, e14, e15, e16, trivial⟩, ⟨e17, e18, e19, e21, e22, e23, e24, e25, trivial⟩⟩⟩, ⟨⟨⟨e26, e27, e28, e29, e30, e31, e32, e33, trivial⟩, ⟨e34, e35, e36, e37, e38, e39, e40, e41, trivial⟩⟩, ⟨⟨e43, e44, e45, e46, e47, e48, e50, e51, trivial⟩, ⟨e53, e54, e56, e58, e59, e60, e61, e62, trivial⟩⟩⟩⟩, ⟨⟨⟨e63, e64, e65, e66, e67, e68, e70, e71, trivial⟩, ⟨⟨e72, e73, e74, e75, e76, e77, e78, e79, trivial⟩, ⟨e80, e81, e82, e83, e84, e85, e86, e87, trivial⟩⟩⟩, ⟨⟨⟨e88, e89, e90, e93, e94, e95, e96, e97, trivial⟩, ⟨e98, e99, e100, e101, e102, e103, e104, e105, trivial⟩⟩, ⟨⟨e106, e107, e108, e109, e110, e111, e112, e114, trivial⟩, ⟨e115, e116, e117, e118, e119, e120, e121, e122, trivial⟩⟩⟩⟩⟩, ⟨⟨⟨⟨e124, e125, e127, e128, e129, e130, e131, e132, trivial⟩, ⟨⟨e133, e134, e135, e136, e137, e138, e139, e140, trivial⟩, ⟨e141, e142, e144, e146, e147, e148, e149, e150, trivial⟩⟩⟩, ⟨⟨⟨e151, e152, e153, e154, e155, e156, e157, e158, trivial⟩, ⟨e159, e160, e161, e162, e163, e164, e165, e166, trivial⟩⟩, ⟨⟨e167, e168, e169, e170, e171, e172, e173, e174, trivial⟩, ⟨e175, e176, e177, e178, e179, e180, e181, e182, trivial⟩⟩⟩⟩, ⟨⟨⟨⟨e183, e184, e185, e186, e187, e188, e189, e190, trivial⟩, ⟨e191, e192, e193, e194, e195, e196, e197, e198, trivial⟩⟩, ⟨⟨e199, e200, e201, e202, e203, e204, e206, e207, trivial⟩, ⟨e208, e209, e210, e211, e212, e213, e214, e215, trivial⟩⟩⟩, ⟨⟨⟨e216, e217, e218, e219, e220, e221, e222, e224, trivial⟩, ⟨e225, e226, e227, e228, e229, e230, e231, e232, trivial⟩⟩, ⟨⟨e233, e234, e235, e236, e237, e238, e239, e240, trivial⟩, ⟨e244, e245, e246, e247, e248, e249, e250, e251, trivial⟩⟩⟩⟩⟩⟩
end Go.Proofs.Ytablmbhnimnccaa.Pw
